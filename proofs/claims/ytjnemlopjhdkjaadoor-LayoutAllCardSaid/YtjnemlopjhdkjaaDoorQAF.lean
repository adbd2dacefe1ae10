/- Operations without lists and tables, looked at one by one, plainly. -/
import Derived.Test.YtjnemlopjhdkjaaDoorQAE
import Derived.Lib.TrimAscii
import Derived.Test.YtjnemlopjhdkjaaDoorQAD
import Derived.Carry
import Derived.ChangeSame
import Derived.ChangeMaps5
import Derived.SizedLaws
import Derived.ChangeSlices
import Derived.SliceStrings
import Derived.ProofKit
import Derived.OpenShut
import Derived.Deep.DeepHandedRow
import Derived.Lib.LaidTab
namespace Go.Fn
open Go Go.Lf
abbrev Opr:Type:=Int×(Int×(List UInt8×(List Int×Unit)))
abbrev Wk:Type:=xT187
abbrev wkL (w:Wk):List (Int×xT8):=arL xY33 26 w.1
theorem wkL_len (w:Wk):(wkL w).length=26:=arL_len
def FlK (ks:List Int):Prop:=ks=[]∨ ∃ r,ks=8::r∧(∀ k∈r,k=2∨k=3∨k=4)∧r.length≤16
theorem FlK.len {ks:List Int} (h:FlK ks):ks.length≤17:=by
 rcases h with rfl | ⟨r,rfl,_,h⟩
 ·simp
 ·simp only [List.length_cons];omega
theorem FlK.get {ks:List Int} (h:FlK ks) {i:Nat} {k:Int} (hi:ks[i]? =some k):(i=0∧k=8)∨(0<i∧(k=2∨k=3∨k=4)):=by
 rcases h with rfl | ⟨r,rfl,hr,_⟩
 ·simp at hi
 ·cases i with
  | zero=>exact .inl ⟨rfl,by simpa using hi.symm⟩
  | succ i=>exact .inr ⟨by omega,hr k (List.mem_of_getElem? (by simpa using hi))⟩
structure WI (ns nt last:Int) (ks:List Int) (w:Wk):Prop where
 dp:w.2.1=ks.length
 st:w.2.2.1=ns
 tp:w.2.2.2.1=nt
 la:w.2.2.2.2.1=last
 ar: ∀ (i:Nat) k,ks[i]? =some k→ ∃ o,(wkL w)[i]? =some o∧o.1=k
 fl:FlK ks
def nextK (ks:List Int) (k:Int):Option (List Int):=
 if k=8 then (if ks=[] then some [8] else none)
 else if ks=[] then none
 else if k=1∨k=6∨k=7 then some ks
 else if k=2 then (if ks.length≤16 then some (ks++[2]) else none)
 else if k=3∨k=4 then (if (∀ j∈ks,j≠3∧j≠4)∧ks.length≤16 then some (ks++[k]) else none)
 else if k=5 then (if 2≤ks.length then some ks.dropLast else none)
 else if k=9 then (if ks.length=1 then some [] else none)
 else none
theorem FlK.cons {ks:List Int} (h:FlK ks) (h0:ks≠[]) {k:Int} (hk:k=2∨k=3∨k=4) (hl:ks.length≤16):FlK (ks++[k]):=by
 rcases h with rfl | ⟨r,rfl,hr,_⟩
 ·exact absurd rfl h0
 ·refine .inr ⟨r++[k],rfl,fun x hx=>?_,?_⟩
  ·rcases List.mem_append.1 hx with hx | hx
   ·exact hr x hx
   ·rw [List.mem_singleton.1 hx];exact hk
  ·simp only [List.length_cons] at hl
   simp only [List.length_append,List.length_cons,List.length_nil];omega
theorem FlK.drop {ks:List Int} (h:FlK ks) (hl:2≤ks.length):FlK ks.dropLast:=by
 rcases h with rfl | ⟨r,rfl,hr,hq⟩
 ·simp at hl
 ·cases r with
  | nil=>simp at hl
  | cons a r=>
   refine .inr ⟨(a::r).dropLast,rfl,fun x hx=>hr x ((List.dropLast_sublist _).subset hx),?_⟩
   simp only [List.length_dropLast]
   omega
section
variable {ns nt last:Int} {ks:List Int} {w:Wk}
theorem para_eq (h:WI ns nt last ks w):ir_walker__para w=some (if ks=[] then -1 else 0,w):=by
 refine Ok.eq ?_
 unfold ir_walker__para
 have hl:=h.fl.len
 have e0:IntKind.wrap .i64 (w.2.1 - 1)=(ks.length:Int) - 1:=by rw [h.dp];exact wrap64 (by omega) (by omega)
 rw [e0]
 refine Ok.bind (Q:=fun d=>d=if ks=[] then .inl w else .inr (0,w)) ?_ fun d hd=>?_
 ·refine Ok.loop (fun k (z:Int×Wk)=>z.2=w∧z.1=(k:Int) - 1∧k≤ks.length∧(ks≠[]→1≤k)) (fun k z hz=>?_) ks.length _ (by omega) ⟨rfl,rfl,Nat.le_refl _,fun h=>by cases ks with | nil=>exact absurd rfl h | cons a r=>simp⟩
  obtain ⟨z1,z2⟩:=z
  obtain ⟨h1,h2,h3,h4⟩:=hz
  dsimp only at h1 h2 ⊢
  subst h1 h2
  refine Ok.ifs (fun hge=>?_) fun hlt=>Ok.inr ?_
  ·have hge:(0:Int)≤(k:Int) - 1:=hge
   have hk:k - 1<ks.length:=by omega
   obtain ⟨o,ho,hok⟩:=h.ar (k - 1) _ (List.getElem?_eq_getElem hk)
   have hget:=h.fl.get (List.getElem?_eq_getElem hk)
   refine Ok.bind (Ok.chk (Q:=(· =k - 1)) (by omega) (by omega) (by omega)) fun j hj=>?_
   subst hj
   refine Ok.bind (Q:=(· =o)) (Ok.of ho rfl) fun y hy=>?_
   subst hy
   refine Ok.ifs (fun h8=>Ok.inr ?_) fun h8=>Ok.inl ⟨k - 1,by omega,rfl,?_,by omega,fun _=>?_⟩
   ·have h8:y.1=8:=h8
    rw [hok] at h8
    have hk1:k=1:=by omega
    have hne:ks≠[]:=fun e=>by rw [e] at hk;simp at hk
    rw [if_neg hne,hk1];rfl
   ·show IntKind.wrap .i64 ((k:Int) - 1 - 1)=_
    rw [wrap64 (by omega) (by omega)];omega
   ·have h8: ¬ y.1=8:=h8
    rw [hok] at h8
    omega
  ·have hlt: ¬ (0:Int)≤(k:Int) - 1:=hlt
   have:ks=[]:=Classical.byContradiction fun hn=>by have:=h4 hn;omega
   rw [if_pos this]
 ·rw [hd]
  by_cases hn:ks=[]
  ·rw [if_pos hn,if_pos hn];exact Ok.some rfl
  ·rw [if_neg hn,if_neg hn];exact Ok.some rfl
theorem top_eq (h:WI ns nt last ks w):ir_walker__top w=some (if ks=[] then none else some (ks.length - 1)):=by
 unfold ir_walker__top ir_walker__topP
 have hl:=h.fl.len
 by_cases hn:ks=[]
 ·have e:w.2.1=0:=by rw [h.dp,hn];rfl
  rw [decide_eq_true e,if_pos hn];rfl
 ·have hp:0<ks.length:=List.length_pos_iff.2 hn
  have e: ¬ w.2.1=0:=by rw [h.dp];omega
  have e1:IntKind.wrap .i64 (w.2.1 - 1)=((ks.length - 1:Nat):Int):=by rw [h.dp,wrap64 (by omega) (by omega)];omega
  rw [decide_eq_false e,if_neg hn,e1]
  have:chk 26 ((ks.length - 1:Nat):Int)=some (ks.length - 1):=by unfold chk;rw [if_pos (by omega)];simp
  rw [this];rfl
theorem within0 (h:WI ns nt last [] w) (k:Int):ir_walker__within w k=some (false,w):=by
 unfold ir_walker__within
 rw [top_eq h];rfl
theorem push_ok (h:WI ns nt last ks w) {o:Int×xT8} (hf:FlK (ks++[o.1])):Ok (ir_walker__push w o) (WI ns nt last (ks++[o.1])):=by
 unfold ir_walker__push
 have hl:=h.fl.len
 have hd:=h.dp
 refine Ok.bind (Ok.chk (Q:=(· =ks.length)) (by omega) (by omega) (by omega)) fun j hj=>?_
 subst hj
 have hlt:ks.length<(wkL w).length:=by rw [wkL_len];omega
 refine Ok.bind (Ok.nth (Q:=fun _=>True) hlt trivial) fun y _=>Ok.some ?_
 refine { dp:=?_,st:=h.st,tp:=h.tp,la:=h.la,ar:=fun i k hi=>?_,fl:=hf }
 ·show IntKind.wrap .i64 (w.2.1+1)=_
  rw [hd,wrap64 (by omega) (by omega),List.length_append];rfl
 ·have e:wkL (arS xY33 26 w.1 ks.length o,(IntKind.wrap .i64 (w.2.1+1),w.2.2))=(wkL w).set ks.length o:=arL_arS
  rw [e]
  by_cases he:i=ks.length
  ·subst he
   rw [List.getElem?_append_right (Nat.le_refl _),Nat.sub_self] at hi
   have hi:o.1=k:=by simpa using hi
   exact ⟨o,by rw [List.getElem?_set_self hlt],hi⟩
  ·have hil:=lt_len hi
   rw [List.length_append] at hil
   have hil:i<ks.length:=by simp only [List.length_cons,List.length_nil] at hil;omega
   rw [List.getElem?_append_left hil] at hi
   rw [List.getElem?_set_ne (by omega)]
   exact h.ar i k hi
theorem WI.pop (h:WI ns nt last ks w) (hk:1≤ks.length) (hf:FlK ks.dropLast):WI ns nt last ks.dropLast (w.1,(IntKind.wrap .i64 (w.2.1 - 1),w.2.2)):=by
 have hl:=h.fl.len
 refine { dp:=?_,st:=h.st,tp:=h.tp,la:=h.la,ar:=fun i k hi=>?_,fl:=hf }
 ·show IntKind.wrap .i64 (w.2.1 - 1)=_
  rw [h.dp,wrap64 (by omega) (by omega),List.length_dropLast];omega
 ·have hil:=lt_len hi
  rw [List.length_dropLast] at hil
  rw [List.getElem?_dropLast,if_pos (by omega)] at hi
  exact h.ar i k hi
def PlP (ns nt last:Int) (ks:List Int) (k:Int) (r:Bool×Wk):Prop:=(r.1=true→ ∃ ks',nextK ks k=some ks'∧WI ns nt last ks' r.2)∧(r.1=false→nextK ks k=none)
theorem sty_ok (h:WI ns nt last ks w) {k:Int} {o:Opr} (hk:k=2∨k=3∨k=4) (ho:o.1=k) (hn:k=2∨ ∀ j∈ks,j≠3∧j≠4) {at_:Int} (ha:at_=if ks=[] then -1 else 0) {f:Bool×Wk×Opr→Option (Bool×Wk)}
  (hf: ∀ r,f r=bif r.1 then some (false,r.2.1) else ((ir_walker__push r.2.1 (r.2.2.1,((0:Int),((0:Int),((0:Int),((0:Int),()))))))).bind fun r14=>some (true,r14)):
  Ok ((bif (!(decide (at_<(0:Int)))) then some ((decide ((16:Int)≤(IntKind.wrap .i64 ((IntKind.wrap .i64 (w.2.1 - at_)) - (1:Int))))),(w,o)) else some (true,(w,o))).bind f) (PlP ns nt last ks k):=by
 have hl:=h.fl.len
 have hne8:k≠8:=by omega
 by_cases hks:ks=[]
 ·have e:at_= -1:=by rw [ha,if_pos hks]
  subst e
  refine Ok.of (k:=(false,w)) (by rw [show (decide ((-1:Int)<0))=true from rfl];show f _=_;rw [hf];rfl) ⟨fun h=>(by cases h),fun _=>?_⟩
  unfold nextK
  rw [if_neg hne8,if_pos hks]
 ·have e:at_=0:=by rw [ha,if_neg hks]
  subst e
  have hp:0<ks.length:=List.length_pos_iff.2 hks
  have e1:IntKind.wrap .i64 (IntKind.wrap .i64 (w.2.1 - 0) - 1)=(ks.length:Int) - 1:=by
   rw [h.dp,wrap64 (x:=(ks.length:Int) - 0) (by omega) (by omega),wrap64 (by omega) (by omega)];omega
  rw [e1]
  show Ok (f (decide ((16:Int)≤(ks.length:Int) - 1),(w,o))) _
  rw [hf]
  have hnx:nextK ks k=if ks.length≤16 then some (ks++[k]) else none:=by
   unfold nextK
   rw [if_neg hne8,if_neg hks,if_neg (by omega)]
   rcases hn with rfl | hn
   ·rw [if_pos rfl]
   ·by_cases h2:k=2
    ·rw [if_pos h2,h2]
    ·rw [if_neg h2,if_pos (by omega)]
     by_cases h16:ks.length≤16
     ·rw [if_pos ⟨hn,h16⟩,if_pos h16]
     ·rw [if_neg fun h=>h16 h.2,if_neg h16]
  refine Ok.ifs (fun h16=>Ok.some ⟨fun h=>(by cases h),fun _=>?_⟩) fun h16=>?_
  ·rw [hnx,if_neg (by omega)]
  ·have h16':ks.length≤16:=by omega
   subst ho
   refine Ok.bind (push_ok h (h.fl.cons hks hk h16')) fun r hr=>Ok.some ⟨fun _=>⟨_,?_,hr⟩,fun h=>(by cases h)⟩
   rw [hnx,if_pos h16']
theorem link_ok (h:WI ns nt last ks w) {o:Opr} {k:Int} (hk:k=3∨k=4) {at_:Int} (ha:at_=if ks=[] then -1 else 0):
  Ok (loopU (σ:=Int×(Wk×Opr)) (κ:=(Wk×Opr)⊕(Bool×Wk)) (fun z4=>
    bif (decide (z4.1<z4.2.1.2.1)) then ((Go.Lf.chk (26:Nat) z4.1)).bind fun r5=>
    ((Go.Lf.nth (Go.Lf.arL xY33 (26:Nat) z4.2.1.1) r5)).bind fun r6=>
    (bif (!(decide ((r6.1:Int)=(3:Int)))) then some ((decide ((r6.1:Int)=(4:Int))),z4.2)
     else some (true,z4.2)).bind fun r7=>
    bif r7.1 then some (.inr (.inr (false,r7.2.1)))
    else some (.inl ((Go.IntKind.wrap .i64 (z4.1+(1:Int))),r7.2))
    else some (.inr (.inl z4.2))) ((Max.max at_ (0:Int)),(w,o))) (fun d=>(d= .inl (w,o)∧ ∀ j∈ks,j≠3∧j≠4)∨(d= .inr (false,w)∧nextK ks k=none)):=by
 have hl:=h.fl.len
 have e0:Max.max at_ (0:Int)=0:=by
  rw [ha]
  split<;>rfl
 rw [e0]
 refine Ok.loop (fun n (z:Int×(Wk×Opr))=> ∃ i:Nat,z=((i:Int),(w,o))∧i+n=ks.length∧ ∀ j∈ks.take i,j≠3∧j≠4) (fun n z hz=>?_) ks.length _ (by omega) ⟨0,rfl,by omega,by simp⟩
 obtain ⟨i,rfl,hi,hj⟩:=hz
 dsimp only
 rw [h.dp]
 refine Ok.ifs (fun hlt=>?_) fun hge=>Ok.inr ?_
 ·have hlt:(i:Int)<(ks.length:Int):=hlt
  have hik:i<ks.length:=by omega
  obtain ⟨y,hy,hyk⟩:=h.ar i _ (List.getElem?_eq_getElem hik)
  refine Ok.bind (Ok.chkE (n:=26) (i:=i) (by omega)) fun j hj'=>?_
  subst hj'
  refine Ok.bind (Q:=(· =y)) (Ok.of hy rfl) fun y' hy'=>?_
  subst hy'
  refine Ok.bind (Q:=fun q=>q.2=(w,o)∧(q.1=true↔(y'.1=3∨y'.1=4))) ?_ fun q hq=>?_
  ·cases h3:decide (y'.1=3) with
   | true=>exact Ok.some ⟨rfl,fun _=> .inl (of_decide_eq_true h3),fun _=>rfl⟩
   | false=>exact Ok.some ⟨rfl,fun h=> .inr (of_decide_eq_true h),fun h=>decide_eq_true (h.resolve_left (of_decide_eq_false h3))⟩
  ·obtain ⟨b,q2⟩:=q
   obtain ⟨hq1,hq2⟩:=hq
   dsimp only at hq1 hq2 ⊢
   subst hq1
   refine Ok.cond (fun hb=>Ok.inr (.inr ⟨rfl,?_⟩)) fun hb=>Ok.inl ⟨n - 1,by omega,i+1,by rw [wrapS (by omega)],by omega,fun j hj'=>?_⟩
   ·have hm:ks[i]∈ks:=List.getElem_mem hik
    have h34:=hq2.1 hb
    rw [hyk] at h34
    unfold nextK
    rw [if_neg (by omega),if_neg (fun e=>by rw [e] at hik;simp at hik),if_neg (by omega),if_neg (by omega),if_pos hk,if_neg fun h=>by have:=h.1 _ hm;omega]
   ·rw [List.take_add_one,List.getElem?_eq_getElem hik] at hj'
    rcases List.mem_append.1 hj' with hj' | hj'
    ·exact hj j hj'
    ·rw [show j=ks[i] by simpa using hj', ← hyk]
     have: ¬ (y'.1=3∨y'.1=4):=fun h=>by rw [hq2.2 h] at hb;cases hb
     omega
 ·have hge: ¬ (i:Int)<(ks.length:Int):=hge
  rw [List.take_of_length_le (by omega)] at hj
  exact .inl ⟨rfl,hj⟩
theorem place_ok (h:WI ns nt last ks w) {o:Opr} (hk:1≤o.1∧o.1≤9):Ok (ir_walker__place w o) (PlP ns nt last ks o.1):=by
 obtain ⟨k,N,T,W,u⟩:=o
 dsimp only at hk
 have hl:=h.fl.len
 unfold ir_walker__place
 rw [para_eq h,Option.bind_some]
 generalize hat:(if ks=[] then (-1:Int) else 0)=at_
 have hat0:(0≤at_)↔ks≠[]:=by
  rw [← hat]
  by_cases hn:ks=[]
  ·rw [if_pos hn];simp [hn]
  ·rw [if_neg hn];simp [hn]
 have hcase:k=1∨k=2∨k=3∨k=4∨k=5∨k=6∨k=7∨k=8∨k=9:=by omega
 have htxt: ∀ k,k=1∨k=6∨k=7→PlP ns nt last ks k (decide (0≤at_),w):=fun k hk=>by
  refine ⟨fun h1=>⟨ks,?_,h⟩,fun h1=>?_⟩
  ·have h1:=hat0.1 (of_decide_eq_true h1)
   unfold nextK
   rw [if_neg (by omega),if_neg h1,if_pos hk]
  ·have h1:ks=[]:=Classical.byContradiction fun hn=>(of_decide_eq_false h1) (hat0.2 hn)
   unfold nextK
   rw [if_neg (by omega),if_pos h1]
 rcases hcase with rfl | rfl | rfl | rfl | rfl | rfl | rfl | rfl | rfl
 ·exact Ok.of rfl (htxt 1 (by omega))
 ·exact sty_ok h (.inl rfl) rfl (.inl rfl) hat.symm fun r=>rfl
 ·refine Ok.bind (Q:=Nx (fun a=>a=(w,((3:Int),(N,(T,(W,u)))))∧ ∀ j∈ks,j≠3∧j≠4) (fun b=>b= .inr (.inr (.inr (false,w)))∧nextK ks 3=none)) ?_ fun d hd=>?_
  ·refine Ok.bind (Q:=(· =(false,(w,((3:Int),(N,(T,(W,u))))))) ) (Ok.of rfl rfl) fun r2 h2=>?_
   subst h2
   refine Ok.cond (fun h=>by cases h) fun _=>?_
   refine Ok.bind (Q:=(· =(true,(w,((3:Int),(N,(T,(W,u))))))) ) (Ok.of rfl rfl) fun r3 h3=>?_
   subst h3
   refine Ok.cond (fun _=>?_) fun h=>(by cases h)
   refine Ok.bind (link_ok h (k:=3) (by omega) hat.symm) fun d hd=>?_
   rcases hd with ⟨rfl,hj⟩ | ⟨rfl,hj⟩
   ·exact Ok.some ⟨rfl,hj⟩
   ·exact Ok.some ⟨rfl,hj⟩
  ·cases d with
   | inl a=>
    obtain ⟨rfl,hj⟩:=hd
    exact sty_ok h (by omega) rfl (.inr hj) hat.symm fun r=>rfl
   | inr b=>
    obtain ⟨rfl,hj⟩:=hd
    exact Ok.some ⟨fun h=>(by cases h),fun _=>hj⟩
 ·refine Ok.bind (Q:=Nx (fun a=>a=(w,((4:Int),(N,(T,(W,u)))))∧ ∀ j∈ks,j≠3∧j≠4) (fun b=>b= .inr (.inr (.inr (false,w)))∧nextK ks 4=none)) ?_ fun d hd=>?_
  ·refine Ok.bind (Q:=(· =(false,(w,((4:Int),(N,(T,(W,u))))))) ) (Ok.of rfl rfl) fun r2 h2=>?_
   subst h2
   refine Ok.cond (fun h=>by cases h) fun _=>?_
   refine Ok.bind (Q:=(· =(true,(w,((4:Int),(N,(T,(W,u))))))) ) (Ok.of rfl rfl) fun r3 h3=>?_
   subst h3
   refine Ok.cond (fun _=>?_) fun h=>(by cases h)
   refine Ok.bind (link_ok h (k:=4) (by omega) hat.symm) fun d hd=>?_
   rcases hd with ⟨rfl,hj⟩ | ⟨rfl,hj⟩
   ·exact Ok.some ⟨rfl,hj⟩
   ·exact Ok.some ⟨rfl,hj⟩
  ·cases d with
   | inl a=>
    obtain ⟨rfl,hj⟩:=hd
    exact sty_ok h (by omega) rfl (.inr hj) hat.symm fun r=>rfl
   | inr b=>
    obtain ⟨rfl,hj⟩:=hd
    exact Ok.some ⟨fun h=>(by cases h),fun _=>hj⟩
 ·by_cases hks:ks=[]
  ·have e:at_= -1:=by rw [← hat,if_pos hks]
   subst e
   refine Ok.of (k:=(false,w)) rfl ⟨fun h=>(by cases h),fun _=>?_⟩
   unfold nextK
   rw [if_neg (by omega),if_pos hks]
  ·have e:at_=0:=by rw [← hat,if_neg hks]
   subst e
   have hp:0<ks.length:=List.length_pos_iff.2 hks
   have e1:IntKind.wrap .i64 (IntKind.wrap .i64 (w.2.1 - 0) - 1)=(ks.length:Int) - 1:=by
    rw [h.dp,wrap64 (x:=(ks.length:Int) - 0) (by omega) (by omega),wrap64 (by omega) (by omega)];omega
   have hnx:nextK ks 5=if 2≤ks.length then some ks.dropLast else none:=by
    unfold nextK
    rw [if_neg (by omega),if_neg hks,if_neg (by omega),if_neg (by omega),if_neg (by omega),if_pos rfl]
   show Ok (bif decide (IntKind.wrap .i64 (IntKind.wrap .i64 (w.2.1 - 0) - 1)<(1:Int)) then some (false,w) else some (true,(w.1,(IntKind.wrap .i64 (w.2.1 - 1),w.2.2)))) _
   rw [e1]
   refine Ok.ifs (fun hc=>Ok.some ⟨fun h=>(by cases h),fun _=>?_⟩) fun hc=>Ok.some ⟨fun _=>⟨_,?_,h.pop hp (h.fl.drop (by omega))⟩,fun h=>(by cases h)⟩
   ·rw [hnx,if_neg (by omega)]
   ·rw [hnx,if_pos (by omega)]
 ·exact Ok.of rfl (htxt 6 (by omega))
 ·exact Ok.of rfl (htxt 7 (by omega))
 ·by_cases hks:ks=[]
  ·have e:at_= -1:=by rw [← hat,if_pos hks]
   subst e hks
   show Ok (((ir_walker__block w ((8:Int),(N,(T,(W,u))))).bind fun r30=>some r30).bind fun r31=>some r31) _
   unfold ir_walker__block
   rw [top_eq h,Option.bind_some]
   refine Ok.ends (Ok.ends (Ok.bind (Q:=Nx (WI ns nt last [8]) (fun _=>False)) ?_ fun d hd=>?_))
   ·exact Ok.bind (push_ok h (o:=((8:Int),((0:Int),((0:Int),((0:Int),((0:Int),())))))) (.inr ⟨[],rfl,by simp,by simp⟩)) fun r hr=>Ok.inl hr
   ·cases d with
    | inl a=>exact Ok.some ⟨fun _=>⟨[8],rfl,hd⟩,fun h=>(by cases h)⟩
    | inr b=>exact hd.elim
  ·have e:at_=0:=by rw [← hat,if_neg hks]
   subst e
   refine Ok.of (k:=(false,w)) rfl ⟨fun h=>(by cases h),fun _=>?_⟩
   unfold nextK
   rw [if_pos rfl,if_neg hks]
 ·by_cases hks:ks=[]
  ·have e:at_= -1:=by rw [← hat,if_pos hks]
   subst e
   refine Ok.of (k:=(false,w)) rfl ⟨fun h=>(by cases h),fun _=>?_⟩
   unfold nextK
   rw [if_neg (by omega),if_pos hks]
  ·have e:at_=0:=by rw [← hat,if_neg hks]
   subst e
   have hp:0<ks.length:=List.length_pos_iff.2 hks
   have e1:IntKind.wrap .i64 (IntKind.wrap .i64 (w.2.1 - 0) - 1)=(ks.length:Int) - 1:=by
    rw [h.dp,wrap64 (x:=(ks.length:Int) - 0) (by omega) (by omega),wrap64 (by omega) (by omega)];omega
   have hnx:nextK ks 9=if ks.length=1 then some [] else none:=by
    unfold nextK
    rw [if_neg (by omega),if_neg hks,if_neg (by omega),if_neg (by omega),if_neg (by omega),if_neg (by omega),if_pos rfl]
   show Ok (bif decide ((0:Int)<IntKind.wrap .i64 (IntKind.wrap .i64 (w.2.1 - 0) - 1)) then some (false,w) else _) _
   rw [e1]
   refine Ok.ifs (fun hc=>Ok.some ⟨fun h=>(by cases h),fun _=>?_⟩) fun hc=>?_
   ·rw [hnx,if_neg (by omega)]
   ·have h1:ks.length=1:=by omega
    have hd0:ks.dropLast=[]:=List.eq_nil_of_length_eq_zero (by rw [List.length_dropLast];omega)
    have hp':=h.pop hp (by rw [hd0];exact .inl rfl)
    rw [hd0] at hp'
    refine Ok.bind (Q:=WI ns nt last []) (Ok.bind (Ok.of (within0 hp' 12) (Q:=fun r=>r=(false,(w.1,(IntKind.wrap .i64 (w.2.1 - 1),w.2.2)))) rfl) fun r hr=>by rw [hr];exact Ok.some hp') fun r hr=>Ok.some ⟨fun _=>⟨[],?_,hr⟩,fun h=>(by cases h)⟩
    rw [hnx,if_pos h1]
end
end Go.Fn
/- ir.Check of operations without lists and tables, plainly: what passes, and why. -/
namespace Go.Fn
open Go Go.Lf
noncomputable def plB (s:List UInt8):Bool:=match ir_plain s with | some b=>b | none=>false
theorem plain_conv (l:List UInt8) (hl:l.length≤1000000000):Ok (text_Plain l) fun r=>r.2=true→ ∀ c∈chS l l.length 0,okC c=true:=by
 unfold text_Plain
 refine Ok.bind (Q:=fun d=>(∃ b,d= .inl b∧b.2=false)∨d= .inr ()∧ ∀ c∈chS l l.length 0,okC c=true) ?_ fun d hd=>?_
 ·refine Ok.loop (fun k (z:List UInt8×Int)=> ∃ p:Nat,z=(l,(p:Int))∧p+k=l.length∧((∀ c∈chS l l.length p,okC c=true)→ ∀ c∈chS l l.length 0,okC c=true)) (fun k z hz=>?_) l.length _ (by omega) ⟨0,rfl,by omega,id⟩
  obtain ⟨p,rfl,hp,hc⟩:=hz
  refine Ok.ifs (fun hlt=>?_) fun hge=>Ok.inr (.inr ⟨rfl,hc ?_⟩)
  case refine_2=>
   have hge: ¬ (p:Int)<(l.length:Int):=hge
   rw [ch_nil (by omega)];simp
  have hlt:(p:Int)<(l.length:Int):=hlt
  have hpl:p<l.length:=by omega
  obtain ⟨er,ew⟩:=rune_at l p
  have hw1:=Lib.decodeL_width (l.drop p)
  have hw2:=dec_fit l p hpl
  rw [ch_step hpl] at hc
  have e:((l,(p:Int)+((Lib.decodeL (l.drop p)).2:Int)):List UInt8×Int)=(l,((p+(Lib.decodeL (l.drop p)).2:Nat):Int)):=by rw [Int.natCast_add]
  refine Ok.bind (Q:=fun r=>r.2=(l,((p+(Lib.decodeL (l.drop p)).2:Nat):Int))∧(r.1=false→okC (chr_ l p)=true)) ?_ fun r hr=>Ok.cond (fun _=>Ok.inr (.inl ⟨_,rfl,rfl⟩)) fun hf=>Ok.inl ⟨k - (Lib.decodeL (l.drop p)).2,by omega,_,hr.1,by omega,fun h=>hc fun c hc'=>?_⟩
  ·dsimp only
   rw [er,ew,control_eq,Option.bind_some]
   have hR:(chr_ l p).1=((Lib.decodeL (l.drop p)).1:Int):=rfl
   cases hct:ctl ((Lib.decodeL (l.drop p)).1:Int) with
   | true=>exact Ok.some ⟨e,fun h=>(by cases h)⟩
   | false=>
    refine Ok.cond (fun _=>Ok.ifs (fun h6=>?_) fun h6=>Ok.some ⟨e,fun _=>?_⟩) fun h=>(by cases h)
    ·rw [bad_eq l p hpl]
     refine Ok.some ⟨e,fun h=>?_⟩
     have h:(chr_ l p).2.2.2.1=false:=h
     unfold okC
     rw [h,hR,hct];rfl
    ·have h6: ¬ ((Lib.decodeL (l.drop p)).1:Int)=65533:=h6
     have h7:(chr_ l p).2.2.2.1=false:=by
      show (decide ((Lib.decodeL (l.drop p)).1=65533) && decide ((Lib.decodeL (l.drop p)).2=1))=false
      rw [decide_eq_false (show ¬ (Lib.decodeL (l.drop p)).1=65533 by omega),Bool.false_and]
     unfold okC
     rw [h7,hR,hct];rfl
  ·rcases List.mem_cons.1 hc' with rfl | hc'
   ·exact hr.2 hf
   ·exact h c hc'
 ·rcases hd with ⟨b,rfl,hb⟩ | ⟨rfl,h⟩
  ·exact Ok.some fun h=>by rw [hb] at h;cases h
  ·exact Ok.some fun _=>h
theorem pl_ok (l:List UInt8) (hl:l.length≤1000000000):Ok (ir_plain l) fun b=>b=plB l∧(b=true→l≠[]∧ ∀ c∈chS l l.length 0,okC c=true)∧((l≠[]∧ ∀ c∈chS l l.length 0,okC c=true)→b=true):=by
 have key:Ok (ir_plain l) fun b=>(b=true→l≠[]∧ ∀ c∈chS l l.length 0,okC c=true)∧((l≠[]∧ ∀ c∈chS l l.length 0,okC c=true)→b=true):=by
  unfold ir_plain
  obtain ⟨r,hr,hq⟩:=plain_conv l hl
  rw [hr,Option.bind_some]
  refine Ok.ends (Ok.ifs (fun hn=>Ok.some ⟨fun h=>⟨hn,hq h⟩,fun h=>?_⟩) fun hn=>Ok.some ⟨fun h=>(by cases h),fun h=>absurd h.1 hn⟩)
  have:=plain_ok l hl h.2
  rw [hr] at this
  injection this with this
  rw [this]
 obtain ⟨b,hb,hq⟩:=key
 exact ⟨b,hb,by unfold plB;rw [hb],hq⟩
def FmP (ns nt last:Int) (o:Opr):Prop:=
 o.2.2.2.1=[]∧((o.1=1∧o.2.1=0∧plB o.2.2.1=true∧last≠1)∨(o.1=2∧0≤o.2.1∧o.2.1<ns∧o.2.2.1=[])∨((o.1=3∨o.1=4)∧0≤o.2.1∧o.2.1<nt∧o.2.2.1=[])∨
  (o.1=8∧ -1≤o.2.1∧o.2.1<ns∧o.2.2.1=[])∨((o.1=5∨o.1=6∨o.1=7∨o.1=9)∧o.2.1=0∧o.2.2.1=[]))
theorem FmP.kind {ns nt last:Int} {o:Opr} (h:FmP ns nt last o):1≤o.1∧o.1≤9:=by
 obtain ⟨_,h | h | h | h | h⟩:=h<;>omega
theorem form_ok {ns nt last:Int} {ks:List Int} {w:Wk} (h:WI ns nt last ks w) {o:Opr} (ho:o.1<10) (hT:o.2.2.1.length≤1000000000):Ok (ir_walker__form w o) fun r=>r.2=w∧(r.1=true↔FmP ns nt last o):=by
 obtain ⟨k,N,T,W,u⟩:=o
 dsimp only at ho hT
 have hW:(((W.length:Nat):Int)=0)↔W=[]:=by
  constructor
  ·intro h;exact List.eq_nil_of_length_eq_zero (by omega)
  ·intro h;rw [h];rfl
 obtain ⟨la,st,tp⟩:w.2.2.2.2.1=last∧w.2.2.1=ns∧w.2.2.2.1=nt:=⟨h.la,h.st,h.tp⟩
 unfold ir_walker__form
 refine Ok.bind (Q:=Nx (fun q=>q.2.2.2=w∧((q.2.2.1=true∧q.2.1=true∧q.1=true)↔FmP ns nt last (k,(N,(T,(W,u)))))) (fun q=>q.2=w∧q.1=false∧ ¬ FmP ns nt last (k,(N,(T,(W,u)))))) ?_ fun d hd=>?_
 ·have leaf: ∀ {a b c:Bool},((c=true∧b=true∧a=true)↔FmP ns nt last (k,(N,(T,(W,u)))))→Ok (some (.inl (a,(b,(c,w)))):Option ((Bool×(Bool×(Bool×Wk)))⊕(Bool×Wk))) (Nx (fun q=>q.2.2.2=w∧((q.2.2.1=true∧q.2.1=true∧q.1=true)↔FmP ns nt last (k,(N,(T,(W,u)))))) (fun q=>q.2=w∧q.1=false∧ ¬ FmP ns nt last (k,(N,(T,(W,u)))))):=fun h=>Ok.inl ⟨rfl,h⟩
  refine Ok.ifs (fun hk=>?_) fun hk1=>Ok.ifs (fun hk=>?_) fun hk2=>?_
  ·have hk:k=1:=hk
   obtain ⟨b,hb,he,_⟩:=pl_ok T hT
   rw [show ir_plain (k,(N,(T,(W,u)))).2.2.1=some b from hb,Option.bind_some]
   refine Ok.cond (fun hbt=>leaf ?_) fun hbf=>leaf ?_
   ·simp only [FmP,decide_eq_true_iff,hW,la, ← he,hbt,hk]
    constructor
    ·rintro ⟨h1,h2,h3⟩;exact ⟨h3, .inl ⟨trivial,h1,trivial,h2⟩⟩
    ·rintro ⟨h3,⟨_,h1,_,h2⟩ | h | h | h | h⟩
     ·exact ⟨h1,h2,h3⟩
     all_goals omega
   ·simp only [FmP,decide_eq_true_iff,hW, ← he,hbf,hk]
    constructor
    ·rintro ⟨_,h2,_⟩;cases h2
    ·rintro ⟨_,⟨_,_,h,_⟩ | h | h | h | h⟩
     ·cases h
     all_goals omega
  ·have hk:k=2:=hk
   refine Ok.ifs (fun h0=>leaf ?_) fun h0=>leaf ?_
   ·have h0:0≤N:=h0
    simp only [FmP,decide_eq_true_iff,hW,st,hk]
    constructor
    ·rintro ⟨h1,h2,h3⟩;exact ⟨h3, .inr (.inl ⟨trivial,h0,h1,h2⟩)⟩
    ·rintro ⟨h3,h | ⟨_,_,h1,h2⟩ | h | h | h⟩
     ·omega
     ·exact ⟨h1,h2,h3⟩
     all_goals omega
   ·have h0: ¬ 0≤N:=h0
    simp only [FmP,decide_eq_true_iff,hW,hk]
    constructor
    ·rintro ⟨h1,_,_⟩;cases h1
    ·rintro ⟨_,h | h | h | h | h⟩<;>omega
  have hk1: ¬ k=1:=hk1
  have hk2: ¬ k=2:=hk2
  refine Ok.bind (Q:=fun r=>r.2=(w,(k,(N,(T,(W,u)))))∧(r.1=true↔(k=3∨k=4))) (Ok.ifs (fun h3=>Ok.some ⟨rfl,?_⟩) fun h3=>Ok.some ⟨rfl,?_⟩) fun r2 hr2=>?_
  ·have h3:k=3:=h3
   exact ⟨fun _=> .inl h3,fun _=>decide_eq_true h3⟩
  ·have h3: ¬ k=3:=h3
   exact ⟨fun h=> .inr (of_decide_eq_true h),fun h=>decide_eq_true (h.resolve_left h3)⟩
  obtain ⟨b2,r2⟩:=r2
  obtain ⟨hr2,hb2⟩:=hr2
  dsimp only at hr2 hb2 ⊢
  subst hr2
  refine Ok.cond (fun hb=>?_) fun hb=>?_
  ·have hk:=hb2.1 hb
   refine Ok.ifs (fun h0=>leaf ?_) fun h0=>leaf ?_
   ·have h0:0≤N:=h0
    simp only [FmP,decide_eq_true_iff,hW,tp]
    constructor
    ·rintro ⟨h1,h2,h3⟩;exact ⟨h3, .inr (.inr (.inl ⟨hk,h0,h1,h2⟩))⟩
    ·rintro ⟨h3,h | h | ⟨_,_,h1,h2⟩ | h | h⟩
     ·omega
     ·omega
     ·exact ⟨h1,h2,h3⟩
     all_goals omega
   ·have h0: ¬ 0≤N:=h0
    simp only [FmP,decide_eq_true_iff,hW]
    constructor
    ·rintro ⟨h1,_,_⟩;cases h1
    ·rintro ⟨_,h | h | h | h | h⟩<;>omega
  have hk34: ¬ (k=3∨k=4):=fun h=>by rw [hb2.2 h] at hb;cases hb
  refine Ok.ifs (fun hk=>?_) fun hk8=>Ok.ifs (fun hk=>?_) fun hk10=>Ok.ifs (fun hk=>?_) fun hk12=>?_
  ·have hk:k=8:=hk
   refine Ok.ifs (fun h0=>leaf ?_) fun h0=>leaf ?_
   ·have h0: -1≤N:=h0
    simp only [FmP,decide_eq_true_iff,hW,st]
    constructor
    ·rintro ⟨h1,h2,h3⟩;exact ⟨h3, .inr (.inr (.inr (.inl ⟨hk,h0,h1,h2⟩)))⟩
    ·rintro ⟨h3,h | h | h | ⟨_,_,h1,h2⟩ | h⟩
     ·omega
     ·omega
     ·omega
     ·exact ⟨h1,h2,h3⟩
     ·omega
   ·have h0: ¬ -1≤N:=h0
    simp only [FmP,decide_eq_true_iff,hW]
    constructor
    ·rintro ⟨h1,_,_⟩;cases h1
    ·rintro ⟨_,h | h | h | h | h⟩<;>omega
  ·have hk:k=10:=hk
   omega
  ·have hk:k=12:=hk
   omega
  have hk8: ¬ k=8:=hk8
  refine Ok.bind (Q:=fun r=>r.2=w∧(r.1=true↔(k=5∨k=6∨k=7∨k=9))) ?_ fun r8 hr8=>?_
  ·have yes: ∀ j:Int,k=j→(j=5∨j=6∨j=7∨j=9)→Ok (some (decide (k=j),w)) fun r=>r.2=w∧(r.1=true↔(k=5∨k=6∨k=7∨k=9)):=fun j hj hj2=>Ok.some ⟨rfl,fun _=>by rw [hj];exact hj2,fun _=>decide_eq_true hj⟩
   refine Ok.ifs (fun h5=>yes 5 h5 (by omega)) fun h5=>Ok.ifs (fun h6=>yes 6 h6 (by omega)) fun h6=>Ok.ifs (fun h7=>yes 7 h7 (by omega)) fun h7=>Ok.ifs (fun h9=>yes 9 h9 (by omega)) fun h9=>Ok.ifs (fun h=>absurd (show k=11 from h) (by omega)) fun _=>Ok.ifs (fun h=>absurd (show k=13 from h) (by omega)) fun _=>Ok.some ⟨rfl,fun h=>absurd (show k=14 from of_decide_eq_true h) (by omega),fun h=>?_⟩
   have h5: ¬ k=5:=h5
   have h6: ¬ k=6:=h6
   have h7: ¬ k=7:=h7
   have h9: ¬ k=9:=h9
   omega
  ·obtain ⟨b8,r8⟩:=r8
   obtain ⟨hr8,hb8⟩:=hr8
   dsimp only at hr8 hb8 ⊢
   subst hr8
   refine Ok.cond (fun hb=>leaf ?_) fun hb=>Ok.inr ⟨rfl,rfl,?_⟩
   ·have hk:=hb8.1 hb
    simp only [FmP,decide_eq_true_iff,hW]
    constructor
    ·rintro ⟨h1,h2,h3⟩;exact ⟨h3, .inr (.inr (.inr (.inr ⟨hk,h1,h2⟩)))⟩
    ·rintro ⟨h3,h | h | h | h | ⟨_,h1,h2⟩⟩
     ·omega
     ·omega
     ·omega
     ·omega
     ·exact ⟨h1,h2,h3⟩
   ·have hkn: ¬ (k=5∨k=6∨k=7∨k=9):=fun h=>by rw [hb8.2 h] at hb;cases hb
    rintro ⟨_,h | h | h | h | h⟩
    ·exact hk1 h.1
    ·exact hk2 h.1
    ·exact hk34 h.1
    ·exact hk8 h.1
    ·exact hkn h.1
 ·cases d with
  | inl a=>
   obtain ⟨h1,h2⟩:=hd
   obtain ⟨b1,b2,b3,w'⟩:=a
   dsimp only at h1 h2
   subst h1
   refine Ok.ends (Ok.cond (fun h3=>Ok.cond (fun h4=>Ok.some ⟨rfl,?_⟩) fun h4=>Ok.some ⟨rfl,?_⟩) fun h3=>Ok.some ⟨rfl,?_⟩)
   ·rw [← h2]
    exact ⟨fun h=>⟨h3,h4,h⟩,fun h=>h.2.2⟩
   ·rw [← h2]
    exact ⟨fun h=>(by cases h),fun h=>by have h5:b2=true:=h.2.1;have h4:b2=false:=h4;rw [h5] at h4;cases h4⟩
   ·rw [← h2]
    exact ⟨fun h=>(by cases h),fun h=>by have h5:b3=true:=h.1;have h3:b3=false:=h3;rw [h5] at h3;cases h3⟩
  | inr b=>exact Ok.some ⟨hd.1,fun h=>(by rw [hd.2.1] at h;cases h),fun h=>absurd h hd.2.2⟩
def kst (l:List Opr):Nat→List Int
 | 0=>[]
 | i+1=>match l[i]? with
  | some o=>(nextK (kst l i) o.1).getD []
  | none=>kst l i
def lastO (l:List Opr):Nat→Int
 | 0=>0
 | i+1=>match l[i]? with
  | some o=>o.1
  | none=>0
def VW (ns nt:Int) (l:List Opr):Prop:=(∀ i o,l[i]? =some o→FmP ns nt (lastO l i) o∧nextK (kst l i) o.1=some (kst l (i+1)))∧kst l l.length=[]
def totT (l:List Opr):Int:=(l.map fun o=>(o.2.2.1.length:Int)).sum
theorem totT_take {l:List Opr} {i:Nat} {o:Opr} (h:l[i]? =some o):totT (l.take (i+1))=totT (l.take i)+o.2.2.1.length:=by
 unfold totT
 rw [List.take_add_one,h]
 simp
theorem totT_le {l:List Opr} (i:Nat):totT (l.take i)≤totT l:=by
 have h1:totT l=totT (l.take i)+totT (l.drop i):=by
  unfold totT
  rw [← List.sum_append, ← List.map_append,List.take_append_drop]
 have h2: ∀ m:List Opr,0≤totT m:=fun m=>by
  unfold totT
  induction m with
  | nil=>simp
  | cons a r ih=>simp only [List.map_cons,List.sum_cons];omega
 have:=h2 (l.drop i)
 omega
theorem text_le {l:List Opr} {o:Opr} (ho:o∈l):(o.2.2.1.length:Int)≤totT l:=by
 obtain ⟨i,hi,rfl⟩:=List.getElem_of_mem ho
 have h1:=totT_take (List.getElem?_eq_getElem hi)
 have h2:=totT_le (l:=l) (i+1)
 have h3:0≤totT (l.take i):=by
  unfold totT
  generalize l.take i=m
  induction m with
  | nil=>simp
  | cons a r ih=>simp only [List.map_cons,List.sum_cons];omega
 omega
theorem w0_inv (ns nt:Int) {w:Wk} (h1:w.2.1=0) (h2:w.2.2.1=ns) (h3:w.2.2.2.1=nt) (h4:w.2.2.2.2.1=0):WI ns nt 0 [] w:=⟨h1,h2,h3,h4,fun i k h=>by simp at h, .inl rfl⟩
theorem check_flat {l:List Opr} {ns nt:Int} (hl:l.length≤3000) (hf: ∀ o∈l,o.1<10) (hT: ∀ o∈l,o.2.2.1.length≤140737488355328):
  Ok (ir_Check l ns nt) fun r=>(r.2=0→VW ns nt l∧totT l≤16384)∧(VW ns nt l→totT l≤16384→r.2=0):=by
 unfold ir_Check
 refine Ok.bind (Q:=fun r=>r=min (totT l) 16385) ?_ fun r3 hr3=>?_
 ·refine Ok.range l (by omega) (fun i z=>0≤z∧z=min (totT (l.take i)) 16385) (fun i o z ho hz=>?_) (fun z hz=>?_) ⟨Int.le_refl _,rfl⟩
  ·have hlt:=lt_len ho
   refine Ok.yes (by show (i:Int)<_;omega) (Ok.bind (Ok.idxE ho) fun y hy=>?_)
   subst hy
   have hTo:=hT o (mem_at ho)
   have e:IntKind.wrap .i64 (z+((o.2.2.1.length:Nat):Int))=z+o.2.2.1.length:=wrap64 (by omega) (by omega)
   refine Ok.inl ⟨wrapS (by omega),?_⟩
   dsimp only
   rw [e,totT_take ho]
   exact ⟨by omega,by omega⟩
  ·refine Ok.no (by show ¬ ((l.length:Int)<_);omega) (Ok.inr ?_)
   have:=hz.2
   rw [List.take_length] at this
   exact this
 refine Ok.bind (Q:=fun b=>b=false↔totT l≤16384) ?_ fun b hb=>Ok.cond (fun h=>Ok.some ⟨fun h=>(by cases h),fun _ ht=>?_⟩) fun hbf=>?_
 ·rw [show decide ((65536:Int)<((l.length:Nat):Int))=false from decide_eq_false (by omega)]
  refine Ok.some ?_
  rw [decide_eq_false_iff_not,hr3];omega
 ·rw [hb.2 ht] at h;cases h
 have htot:=hb.1 hbf
 refine Ok.bind (Q:=fun d=>(∃ w,d= .inl w∧WI ns nt (lastO l l.length) (kst l l.length) w∧ ∀ i o,l[i]? =some o→FmP ns nt (lastO l i) o∧nextK (kst l i) o.1=some (kst l (i+1)))∨(∃ b,d= .inr b∧b.2≠0)∧ ¬ VW ns nt l) ?_ fun d hd=>?_
 ·refine Ok.range l (by omega) (fun i w=>WI ns nt (lastO l i) (kst l i) w∧ ∀ j o,j<i→l[j]? =some o→FmP ns nt (lastO l j) o∧nextK (kst l j) o.1=some (kst l (j+1))) (fun i o w ho hw=>?_) (fun w hw=>?_) ⟨w0_inv ns nt rfl rfl rfl rfl,fun j o hj=>by omega⟩
  ·have hlt:=lt_len ho
   obtain ⟨hw1,hw2⟩:=hw
   refine Ok.yes (by show (i:Int)<_;omega) (Ok.bind (Ok.idxE ho) fun y hy=>?_)
   subst hy
   have hk:kst l (i+1)=(nextK (kst l i) o.1).getD []:=by show (match l[i]? with | some o=>_ | none=>_)=_;rw [ho]
   have hlo:lastO l (i+1)=o.1:=by show (match l[i]? with | some o=>_ | none=>_)=_;rw [ho]
   refine Ok.bind (Q:=fun q=>q.2.2=o∧((q.1=false∧(FmP ns nt (lastO l i) o∧nextK (kst l i) o.1=some (kst l (i+1)))∧WI ns nt (lastO l i) (kst l (i+1)) q.2.1)∨(q.1=true∧ ¬ (FmP ns nt (lastO l i) o∧nextK (kst l i) o.1=some (kst l (i+1)))))) ?_ fun q hq=>?_
   ·refine Ok.bind (form_ok hw1 (hf o (mem_at ho)) (by have:=text_le (mem_at ho);omega)) fun r7 hr7=>?_
    obtain ⟨b7,w7⟩:=r7
    obtain ⟨he7,hb7⟩:=hr7
    dsimp only at he7 hb7 ⊢
    subst he7
    cases b7 with
    | false=>exact Ok.some ⟨rfl, .inr ⟨rfl,fun h=>by have:=hb7.2 h.1;cases this⟩⟩
    | true=>
     have hF:=hb7.1 rfl
     refine Ok.bind (place_ok hw1 hF.kind) fun r8 hr8=>Ok.some ⟨rfl,?_⟩
     obtain ⟨b8,w8⟩:=r8
     obtain ⟨hp1,hp2⟩:=hr8
     cases b8 with
     | true=>
      obtain ⟨ks',hk1,hk2⟩:=hp1 rfl
      rw [hk,hk1]
      exact .inl ⟨rfl,⟨hF,rfl⟩,hk2⟩
     | false=>
      have:=hp2 rfl
      exact .inr ⟨rfl,fun h=>by rw [this] at h;cases h.2⟩
   ·obtain ⟨b,w',o'⟩:=q
    obtain ⟨hq1,hq2⟩:=hq
    dsimp only at hq1 hq2
    subst hq1
    rcases hq2 with ⟨rfl,hv,hwi⟩ | ⟨rfl,hn⟩
    ·refine Ok.inl ⟨wrapS (by omega),?_,fun j o2 hj ho2=>?_⟩
     ·rw [hlo]
      exact ⟨hwi.dp,hwi.st,hwi.tp,rfl,hwi.ar,hwi.fl⟩
     ·by_cases hji:j<i
      ·exact hw2 j o2 hji ho2
      ·have:j=i:=by omega
       subst this
       rw [ho] at ho2
       injection ho2 with ho2
       subst ho2
       exact hv
    ·exact Ok.inr (.inr ⟨⟨_,rfl,(by decide:(110:Int)≠0)⟩,fun h=>hn (h.1 i o' ho)⟩)
  ·exact Ok.no (by show ¬ ((l.length:Int)<_);omega) (Ok.inr (.inl ⟨w,rfl,hw.1,fun i o ho=>hw.2 i o (lt_len ho) ho⟩))
 ·rcases hd with ⟨w,rfl,hw,hv⟩ | ⟨⟨b,rfl,hb⟩,hn⟩
  ·refine Ok.ifs (fun hd0=>Ok.some ⟨fun h=>(by cases h),fun h _=>?_⟩) fun hd0=>Ok.some ⟨fun _=>⟨⟨hv,?_⟩,htot⟩,fun _ _=>rfl⟩
   ·have hd0:(0:Int)<w.2.1:=hd0
    rw [hw.dp,h.2] at hd0
    simp at hd0
   ·have hd0: ¬ (0:Int)<w.2.1:=hd0
    rw [hw.dp] at hd0
    exact List.eq_nil_of_length_eq_zero (by omega)
  ·exact Ok.some ⟨fun h=>absurd h hb,fun h _=>absurd h hn⟩
end Go.Fn
/- Lines of a table, plainly: what is told is what flows, but for blanks; how many lines there are. -/
namespace Go.Fn
open Go Go.Lf
def sg (l:List Gl):List Gl:=l.filter fun g=>decide (g.1≠[32])
theorem sg_app (l m:List Gl):sg (l++m)=sg l++sg m:=List.filter_append ..
theorem sg_blank {l:List Gl} (h: ∀ g∈l,g.1=[32]):sg l=[]:=by
 unfold sg
 rw [List.filter_eq_nil_iff]
 intro g hg
 simp [h g hg]
def told (f:Ft):List Gl:=f.2.1.flatten++f.2.2.1
abbrev Ln:Type:=Nat×(Int×Int)
def putA (W:Int) (s:Ln) (ws:Int):Ln:=if ws=0 then s else if s.2.1+s.2.2+ws≤W then (s.1,(s.2.1+s.2.2+ws,0)) else (s.1+1,(ws,0))
def wtA (s:Ln):Ln:=if 0<s.2.1∧s.2.2=0 then (s.1,(s.2.1,1)) else s
def stepA (W:Int) (c:Ln×Int) (g:Gl):Ln×Int:=if g.1=[32] then (wtA (putA W c.1 c.2),0) else (c.1,c.2+g.2.1)
def runA (W:Int) (l:List Gl):Ln×Int:=l.foldl (stepA W) ((0,(0,0)),0)
def finA (W:Int) (c:Ln×Int):Nat:=if 0<(putA W c.1 c.2).2.1 then (putA W c.1 c.2).1+1 else (putA W c.1 c.2).1
def wsum (l:List Gl):Int:=l.foldl (fun n g=>if g.1=[32] then 0 else n+g.2.1) 0
theorem runA_take {W:Int} {l:List Gl} {i:Nat} {x:Gl} (h:l[i]? =some x):runA W (l.take (i+1))=stepA W (runA W (l.take i)) x:=by
 unfold runA
 rw [List.take_add_one,h,List.foldl_append];rfl
theorem runA_ws (W:Int) (l:List Gl):(runA W l).2=wsum l:=by
 have key: ∀ (l:List Gl) (c:Ln×Int),(l.foldl (stepA W) c).2=l.foldl (fun n g=>if g.1=[32] then 0 else n+g.2.1) c.2:=by
  intro l
  induction l with
  | nil=>intro c;rfl
  | cons g r ih=>
   intro c
   rw [List.foldl_cons,List.foldl_cons,ih]
   unfold stepA
   by_cases h:g.1=[32]
   ·rw [if_pos h,if_pos h]
   ·rw [if_neg h,if_neg h]
 exact key l _
theorem sumW_le {a:List Gl} (ha: ∀ g∈a,GW g) (k:Nat):sumW (a.take k)≤sumW a:=by
 have h1:sumW a=sumW (a.take k)+sumW (a.drop k):=by rw [← sumW_app,List.take_append_drop]
 have h2:=sumW_bd (a.drop k) fun g hg=>ha g (List.mem_of_mem_drop hg)
 omega
theorem FI.at0 {w:Int} {n:Nat} {f:Ft} (h:FI w n f):0<f.2.2.2.1↔0<f.2.2.1.length:=by
 have h1:=sumW_bd _ h.line.1
 rw [h.at_]
 omega
theorem end_eq {w:Int} {n:Nat} {f:Ft} (h:FI w n f) (hn:n≤1000000000):Ok (table_filler__end f) fun f'=>f'.2.1=f.2.1++[f.2.2.1]∧f'.2.2.1=[]∧f'.2.2.2.1=0∧f'.2.2.2.2.1=[]:=by
 unfold table_filler__end
 have:=h.out
 refine Ok.bind (Ok.appE (by simp only [List.length_cons,List.length_nil];omega)) fun r hr=>Ok.some ?_
 subst hr
 exact ⟨rfl,rfl,rfl,rfl⟩
theorem told_end {f f':Ft} (h:f'.2.1=f.2.1++[f.2.2.1]∧f'.2.2.1=[]∧f'.2.2.2.1=0∧f'.2.2.2.2.1=[]):told f'=told f:=by
 unfold told
 rw [h.1,h.2.1]
 simp
theorem put_eq {w:Int} {n:Nat} {f:Ft} {g:Gl} (h:FI w n f):Ok (table_filler__put f g) fun f'=>f'.2.1=f.2.1∧f'.2.2.1=f.2.2.1++[g]∧f'.2.2.2.2.1=f.2.2.2.2.1:=by
 unfold table_filler__put
 have h1:=h.line.len
 have h2:=h.hi
 refine Ok.bind (Ok.appE (by simp only [List.length_cons,List.length_nil];omega)) fun r hr=>Ok.some ?_
 subst hr
 exact ⟨rfl,rfl,rfl⟩
theorem told_put {f f':Ft} {g:Gl} (h:f'.2.1=f.2.1∧f'.2.2.1=f.2.2.1++[g]∧f'.2.2.2.2.1=f.2.2.2.2.1):told f'=told f++[g]:=by
 unfold told
 rw [h.1,h.2.1,List.append_assoc]
theorem word_ok2 {w:Int} {n:Nat} {f:Ft} {a:List Gl} (h:FI w n f) (hb: ∀ g∈f.2.2.2.2.1,g.1=[32]) (hlw:f.2.2.1=[]→f.2.2.2.2.1=[]) (ha: ∀ g∈a,GW g∧g.2.1≤w) (hne:a≠[]) (hn:n+a.length≤900000000):
  Ok (table_filler__word f a) fun f'=>FI w (n+a.length+1) f'∧f'.2.2.2.2.1=[]∧sg (told f')=sg (told f)++sg a∧(sumW a≤w→(f'.2.1.length,(f'.2.2.2.1,(0:Int)))=putA w (f.2.1.length,(f.2.2.2.1,(f.2.2.2.2.1.length:Int))) (sumW a)):=by
 unfold table_filler__word
 have h2:=h.hi
 have h3:=h.pos
 have h4:=h.ws
 have hbd:=sumW_bd a fun g hg=>(ha g hg).1
 have hpos:0<sumW a:=by
  have:a.length≠0:=fun e=>hne (List.eq_nil_of_length_eq_zero e)
  omega
 have hsb:=sg_blank hb
 refine Ok.bind (wide_ok (by omega) fun g hg=>(ha g hg).1) fun r hr=>?_
 subst hr
 have e1:IntKind.wrap .i64 (IntKind.wrap .i64 (f.2.2.2.1+((f.2.2.2.2.1.length:Nat):Int))+sumW a)=f.2.2.2.1+f.2.2.2.2.1.length+sumW a:=by
  rw [wrap64 (x:=f.2.2.2.1+((f.2.2.2.2.1.length:Nat):Int)) (by omega) (by omega)];exact wrap64 (by omega) (by omega)
 simp only [e1,h.wd]
 refine Ok.ifs (fun hc=>?_) fun hc=>?_
 ·refine Ok.bind (Ok.appE (by omega)) fun r hr=>?_
  have hr2: ∀ g∈r,GW g:=fun g hg=>by
   rw [hr] at hg
   rcases List.mem_append.1 hg with hg | hg
   ·have:=h.w1 g hg
    unfold GW
    omega
   ·exact (ha g hg).1
  have hs1: ∀ l:List Gl,(∀ g∈l,g.2.1=1)→sumW l=l.length:=fun l=>by
   induction l with
   | nil=>intro _;rfl
   | cons x t ih=>
    intro hx
    simp only [sumW,List.length_cons]
    rw [ih fun g hg=>hx g (List.mem_cons_of_mem _ hg),hx x List.mem_cons_self]
    omega
  have hrs:sumW r=f.2.2.2.2.1.length+sumW a:=by rw [hr,sumW_app,hs1 _ h.w1]
  have hrl:r.length=f.2.2.2.2.1.length+a.length:=by rw [hr,List.length_append]
  refine Ok.bind (Q:=fun f'=>(∃ u,FI w n (f'.1,(f'.2.1,(f'.2.2.1,(f'.2.2.2.1,([],u))))))∧f'.2.1=f.2.1∧f'.2.2.1=f.2.2.1++r) ?_ fun f' hf'=>Ok.some ?_
  ·refine Ok.range r (by omega) (fun i s=>s.1=r∧(∃ u,FI w n (s.2.1,(s.2.2.1,(s.2.2.2.1,(s.2.2.2.2.1,([],u))))))∧s.2.2.2.2.1+sumW (r.drop i)≤w∧s.2.2.1=f.2.1∧s.2.2.2.1=f.2.2.1++r.take i) (fun i x s hx hs=>?_) (fun s hs=>?_) ⟨rfl,⟨(),by first | (have:=h.noW (u:=());rw [h.wd] at this;exact this) | exact h.noW⟩,?_,rfl,by simp⟩
   ·obtain ⟨hs1,⟨u,hs2⟩,hs3,hs4,hs5⟩:=hs
    have hlt:=lt_len hx
    refine Ok.yes (by show (i:Int)<_;omega) (Ok.bind (Ok.chkE (i:=i) (by rw [hs1];omega)) fun k hk=>?_)
    subst hk
    refine Ok.bind (Q:=(· =x)) (Ok.of (show nth s.1 i=_ by rw [hs1];exact hx) rfl) fun y hy=>?_
    subst hy
    have hp:=(put_ok (g:=y) hs2 (hr2 y (mem_at hx)) (by
     have:=sumW_drop hx
     have:=sumW_bd (r.drop (i+1)) fun g hg=>hr2 g (List.mem_of_mem_drop hg)
     show s.2.2.2.2.1+y.2.1≤w
     omega)).and (put_eq (g:=y) hs2)
    obtain ⟨f',hf',hq⟩:=hp
    unfold table_filler__put at hf'
    refine Ok.bind (Q:=fun q=>(∃ u,FI w n (q.1,(q.2.1,(q.2.2.1,(q.2.2.2.1,([],u))))))∧q.2.2.2.1=s.2.2.2.2.1+y.2.1∧q.2.1=s.2.2.1∧q.2.2.1=s.2.2.2.1++[y]) ?_ fun q hq=>Ok.inl ⟨wrapS (by omega),hs1,hq.1,?_,hq.2.2.1.trans hs4,?_⟩
    ·unfold table_filler__putD
     obtain ⟨t,ht,he⟩:=Option.bind_eq_some_iff.1 hf'
     injection he with he
     subst he
     exact Ok.bind (Ok.of ht rfl) fun t' ht'=>Ok.some ⟨⟨_,by subst ht';exact hq.1.1⟩,hq.1.2.1,by subst ht';exact hq.2.1,by subst ht';exact hq.2.2.1⟩
    ·show q.2.2.2.1+sumW (r.drop (i+1))≤w
     rw [hq.2.1]
     have:=sumW_drop hx
     omega
    ·show q.2.2.1=_
     rw [hq.2.2.2,hs5,List.take_add_one,hx,List.append_assoc];rfl
   ·obtain ⟨hs1,hs2,_,hs4,hs5⟩:=hs
    exact Ok.no (by show ¬ ((r.length:Int)<_);omega) (Ok.inr ⟨hs2,hs4,by rw [hs5,List.take_length]⟩)
   ·show f.2.2.2.1+sumW (r.drop 0)≤w
    rw [List.drop_zero,hrs]
    omega
  ·obtain ⟨⟨u,hf1⟩,hf2,hf3⟩:=hf'
   refine ⟨FI.mono hf1 (by omega),rfl,?_,fun _=>?_⟩
   ·show sg (f'.2.1.flatten++f'.2.2.1)=_
    rw [hf2,hf3,hr]
    unfold told
    simp only [sg_app,hsb,List.nil_append,List.append_assoc]
   ·have hat:f'.2.2.2.1=sumW f'.2.2.1:=hf1.at_
    unfold putA
    rw [if_neg (by omega),if_pos hc]
    show (f'.2.1.length,(f'.2.2.2.1,(0:Int)))=_
    rw [hat,hf2,hf3,sumW_app,hrs, ← h.at_]
    simp only [Prod.mk.injEq,true_and,and_true]
    omega
 ·have hl0:f.2.2.1=[]→f.2.2.2.1=0:=fun e=>by rw [h.at_,e];rfl
  refine Ok.bind (Q:=fun f'=>FI w (n+1) f'∧f'.2.2.2.2.1=[]∧told f'=told f∧f'.2.2.2.1=0∧(f.2.2.1≠[]→f'.2.1.length=f.2.1.length+1)) (Ok.ifs (fun _=>Ok.ends (((end_ok h.noW (by omega)).and (end_eq h.noW (by omega))).imp fun f' h'=>⟨h'.1.1,h'.1.2.2,told_end h'.2,h'.2.2.2.1,fun _=>by rw [h'.2.1];simp⟩)) fun hc0=>?_) fun f1 hf1=>Ok.ends ?_
  ·have hc0: ¬ ((0:Int)<(f.2.2.1.length:Int)):=hc0
   have he:f.2.2.1=[]:=List.eq_nil_of_length_eq_zero (by omega)
   exact Ok.some ⟨h.noW.mono (by omega),rfl,rfl,hl0 he,fun h'=>absurd he h'⟩
  have hnl:sumW a≤w→f.2.2.1≠[]:=fun h1 h2=>by
   have e3:=hl0 h2
   have e4:=hlw h2
   rw [e3,e4] at hc
   simp only [List.length_nil] at hc
   omega
  refine (Ok.range a (by omega) (Q:=fun s=>FI w (n+1+a.length) s∧s.2.2.2.2.1=[]∧told s=told f++a∧(sumW a≤w→s.2.1.length=f1.2.1.length∧s.2.2.2.1=sumW a)) (fun i s=>FI w (n+1+i) s∧s.2.2.2.2.1=[]∧told s=told f++a.take i∧(sumW a≤w→s.2.1.length=f1.2.1.length∧s.2.2.2.1=sumW (a.take i))) (fun i x s hx hs=>?_) (fun s hs=>?_) ⟨hf1.1,hf1.2.1,by rw [hf1.2.2.1];simp,fun _=>⟨rfl,hf1.2.2.2.1⟩⟩).imp fun s hs=>?_
  ·obtain ⟨hs0,hsw,hst,hsc⟩:=hs
   have hlt:=lt_len hx
   refine Ok.yes (by show (i:Int)<_;omega) (Ok.bind (Ok.idxE hx) fun y hy=>?_)
   subst hy
   have hx1:=ha x (mem_at hx)
   have hx2:=hx1.1
   unfold GW at hx2
   have hp:=hs0.pos
   have hle:=sumW_le (fun g hg=>(ha g hg).1) (i+1)
   rw [sumW_take hx] at hle
   have ew:IntKind.wrap .i64 (s.2.2.2.1+x.2.1)=s.2.2.2.1+x.2.1:=wrap64 (by omega) (by omega)
   refine Ok.bind (Q:=fun q=>q.2=x∧FI w (n+1+i+1) q.1∧q.1.2.2.2.2.1=[]∧q.1.2.2.2.1+x.2.1≤w∧told q.1=told s∧(sumW a≤w→q.1=s)) ?_ fun q hq=>?_
   ·refine Ok.ifs (fun hc1=>Ok.bind ((end_ok hs0 (by omega)).and (end_eq hs0 (by omega))) fun f2 hf2=>Ok.some ⟨rfl,hf2.1.1,hf2.1.2.2,?_,told_end hf2.2,fun h9=>?_⟩) fun hc=>Ok.some ⟨rfl,hs0.mono (by omega),hsw,?_,rfl,fun _=>rfl⟩
    ·show f2.2.2.2.1+x.2.1≤w
     rw [hf2.2.2.2.1]
     omega
    ·exfalso
     have hw:=hs0.wd
     have hc1:s.1<IntKind.wrap .i64 (s.2.2.2.1+x.2.1):=hc1
     rw [ew,hw,(hsc h9).2] at hc1
     omega
    ·have hw:=hs0.wd
     have hc: ¬ (s.1<IntKind.wrap .i64 (s.2.2.2.1+x.2.1)):=hc
     rw [ew,hw] at hc
     show s.2.2.2.1+x.2.1≤w
     omega
   ·obtain ⟨hq1,hq2,hq3,hq4,hq5,hq6⟩:=hq
    refine Ok.bind ((put_ok (g:=q.2) hq2 (by rw [hq1];exact hx1.1) (by rw [hq1];exact hq4)).and (put_eq (g:=q.2) hq2)) fun f3 hf3=>Ok.inl ⟨wrapS (by omega),FI.mono hf3.1.1 (by omega),hf3.1.2.2.trans hq3,?_,fun h9=>⟨?_,?_⟩⟩
    ·show told f3=_
     rw [told_put hf3.2,hq5,hst,hq1,List.append_assoc,List.take_add_one,hx];rfl
    ·show f3.2.1.length=_
     rw [hf3.2.1,hq6 h9];exact (hsc h9).1
    ·show f3.2.2.2.1=_
     rw [hf3.1.2.1,hq6 h9,hq1,(hsc h9).2,sumW_take hx]
  ·exact Ok.no (by show ¬ ((a.length:Int)<_);omega) (Ok.inr ⟨hs.1,hs.2.1,by rw [hs.2.2.1,List.take_length],fun h9=>by rw [← List.take_length (l:=a)];rw [List.take_length];have:=hs.2.2.2 h9;rw [List.take_length] at this;exact this⟩)
  ·refine ⟨hs.1.mono (by omega),hs.2.1,by rw [hs.2.2.1,sg_app],fun h9=>?_⟩
   obtain ⟨h7,h8⟩:=hs.2.2.2 h9
   unfold putA
   rw [if_neg (by omega),if_neg hc,h7,h8,hf1.2.2.2.2 (hnl h9)]
theorem fill1_ok2 {w:Int} {n:Nat} {f:Ft} {a:List Gl} (h:FI w n f) (hb: ∀ g∈f.2.2.2.2.1,g.1=[32]) (hlw:f.2.2.1=[]→f.2.2.2.2.1=[]) (ha: ∀ g∈a,GW g∧g.2.1≤w) (hn:n+a.length≤900000000):
  Ok (table_Fill_1 a f) fun r=>r.1=[]∧FI w (n+a.length+1) r.2∧(∀ g∈r.2.2.2.2.2.1,g.1=[32])∧(r.2.2.2.1=[]→r.2.2.2.2.2.1=[])∧sg (told r.2)=sg (told f)++sg a∧(sumW a≤w→(r.2.2.1.length,(r.2.2.2.2.1,(r.2.2.2.2.2.1.length:Int)))=putA w (f.2.1.length,(f.2.2.2.1,(f.2.2.2.2.1.length:Int))) (sumW a)):=by
 unfold table_Fill_1
 refine Ok.ifs (fun hc=>Ok.bind (word_ok2 h hb hlw ha (fun e=>by rw [e] at hc;simp at hc) hn) fun r hr=>Ok.some ⟨rfl,hr.1,?_,fun _=>hr.2.1,hr.2.2.1,fun h9=>?_⟩) fun hc=>?_
 ·show ∀ g∈r.2.2.2.2.1,_
  rw [hr.2.1];simp
 ·show (r.2.1.length,(r.2.2.2.1,(r.2.2.2.2.1.length:Int)))=_
  rw [hr.2.1]
  exact hr.2.2.2 h9
 ·have hc: ¬ ((0:Int)<(a.length:Int)):=hc
  have he:a=[]:=List.eq_nil_of_length_eq_zero (by omega)
  subst he
  refine Ok.some ⟨rfl,h.mono (by omega),hb,hlw,by simp [sg],fun _=>?_⟩
  unfold putA
  rw [if_pos (show sumW ([]:List Gl)=0 from rfl)]
theorem tabbed_ok2 {w:Int} {n:Nat} {f:Ft} {g:Gl} (h:FI w n f) (hn:n≤1000000000):Ok (table_filler__tabbed f g) fun f'=>FI w (n+1) f'∧f'.2.2.2.2.1=[]∧sg (told f')=sg (told f):=by
 unfold table_filler__tabbed
 have h2:=h.hi
 have h3:=h.pos
 have e1:IntKind.wrap .i64 (Int.tdiv f.2.2.2.1 8)=f.2.2.2.1 / 8:=by
  rw [Int.tdiv_eq_ediv_of_nonneg h3.1];exact wrap64 (by omega) (by omega)
 refine Ok.bind (Ok.nz (Q:=(· =f.2.2.2.1 / 8)) (by decide) e1) fun r hr=>?_
 subst hr
 have e2:IntKind.wrap .i64 ((IntKind.wrap .i64 (f.2.2.2.1 / 8+1))*8)=(f.2.2.2.1 / 8+1)*8:=by
  rw [wrap64 (x:=f.2.2.2.1 / 8+1) (by omega) (by omega)];exact wrap64 (by omega) (by omega)
 simp only [e2]
 have hw:=h.wd
 refine Ok.ifs (fun _=>Ok.ends (((end_ok h.noW hn).and (end_eq h.noW hn)).imp fun f' h'=>⟨h'.1.1,h'.1.2.2,by rw [told_end h'.2];rfl⟩)) fun hlt=>Ok.ends ?_
 rw [hw] at hlt
 refine Ok.loop (fun k z=>z.1.1=[32]∧z.1.2.1=1∧FI w n z.2∧z.2.2.2.2.1+k=(f.2.2.2.1 / 8+1)*8∧z.2.2.2.2.2.1=[]∧sg (told z.2)=sg (told f)) (fun k z hz=>?_) ((f.2.2.2.1 / 8+1)*8 - f.2.2.2.1).toNat _ (by omega) ⟨rfl,rfl,h.noW,?_,rfl,rfl⟩
 ·obtain ⟨hz0,hz1,hz2,hz3,hz4,hz5⟩:=hz
  refine Ok.ifs (fun hc=>?_) fun hc=>Ok.inr ⟨hz2.mono (by omega),hz4,hz5⟩
  refine Ok.bind ((put_ok hz2 (show GW z.1 by unfold GW;omega) (by omega)).and (put_eq (g:=z.1) hz2)) fun r hr=>Ok.inl ⟨k - 1,by omega,hz0,hz1,hr.1.1,?_,hr.1.2.2.trans hz4,?_⟩
  ·have:=hr.1.2.1
   show r.2.2.2.1+_=_
   omega
  ·show sg (told r)=_
   rw [told_put hr.2,sg_app,hz5,sg_blank (l:=[z.1]) (by simpa using hz0),List.append_nil]
 ·show f.2.2.2.1+_=_
  omega
theorem leap_ok2 {w:Int} {n:Nat} {f:Ft} {g:Gl} (h:FI w n f) (hn:n≤1000000000):Ok (table_filler__leap f g) fun f'=>FI w (n+1) f'∧f'.2.2.2.2.1=[]∧sg (told f')=sg (told f):=by
 unfold table_filler__leap
 refine Ok.bind (kind_ok g) fun k _=>Ok.ifs (fun _=>Ok.ends (tabbed_ok2 h hn)) fun _=>Ok.ends (((end_ok h hn).and (end_eq h hn)).imp fun f' h'=>⟨h'.1.1,h'.1.2.2,by rw [told_end h'.2]⟩)
theorem check_ok2 {l:List Gl} (hl:l.length≤1000000000000) (h: ∀ g∈l,kindV g=3→GW g∧g.1≠[]):Ok (table_check l) fun e=>e=0:=by
 unfold table_check
 refine Ok.bind (Q:=Nx (fun _=>True) (fun _=>False)) ?_ fun r hr=>?_
 ·refine Ok.range0 l (by omega) (fun _=>True) (fun i x hx _=>?_) (fun _=>Ok.no (by show ¬ ((l.length:Int)<_);omega) (Ok.inr trivial)) trivial
  have hlt:=lt_len hx
  refine Ok.yes (by show (i:Int)<_;omega) (Ok.bind (Ok.idxE hx) fun r hr=>?_)
  subst hr
  refine Ok.bind (Q:=fun b=>b=false) (Ok.bind (kind_ok x) fun k hk=>?_) fun b hb=>Ok.cond (fun h=>by rw [hb] at h;cases h) fun _=>Ok.inl ⟨wrapS (by omega),trivial⟩
  subst hk
  refine Ok.ifs (fun hk=>?_) fun _=>Ok.some rfl
  obtain ⟨h1,h2⟩:=h x (mem_at hx) hk
  unfold GW at h1
  rw [decide_eq_false h2]
  refine Ok.ifs (fun hw1=>Ok.some (decide_eq_false ?_)) fun hw1=>Ok.some rfl
  have hw1: ¬ (x.2.1:Int)=1:=hw1
  show ¬ ¬ (x.2.1:Int)=2
  omega
 ·cases r with
  | inl u=>exact Ok.some rfl
  | inr k=>exact hr.elim
theorem kind3 (g:Gl):kindV g=3→g.1≠[32]:=fun h e=>by unfold kindV at h;rw [if_pos e] at h;cases h
theorem kind0 (g:Gl):kindV g=0↔g.1=[32]:=by
 unfold kindV
 by_cases h:g.1=[32]
 ·rw [if_pos h];simp [h]
 ·rw [if_neg h]
  refine ⟨fun h2=>?_,fun h2=>absurd h2 h⟩
  split at h2
  ·cases h2
  ·split at h2<;>cases h2
def s3 (l:List Gl):List Gl:=l.filter fun g=>decide (kindV g=3)
theorem s3_take {l:List Gl} {i:Nat} {x:Gl} (h:l[i]? =some x):s3 (l.take (i+1))=s3 (l.take i)++s3 [x]:=by
 unfold s3
 rw [List.take_add_one,h,List.filter_append];rfl
def Cnt (w:Int) (l:List Gl):Prop:=(∀ g∈l,kindV g=0∨kindV g=3)∧ ∀ i,i≤l.length→wsum (l.take i)≤w
structure FJ (w:Int) (l:List Gl) (i:Nat) (s:List Gl×Ft):Prop where
 fi: ∃ n,FI w n s.2∧n+s.1.length≤3*i
 wo: ∀ g∈s.1,GW g∧g.2.1≤w
 wk: ∀ g∈s.1,g.1≠[32]
 bl: ∀ g∈s.2.2.2.2.2.1,g.1=[32]
 lw:s.2.2.2.1=[]→s.2.2.2.2.2.1=[]
 sg:sg (told s.2)++s.1=s3 (l.take i)
 ct:Cnt w l→((s.2.2.1.length,(s.2.2.2.2.1,(s.2.2.2.2.2.1.length:Int))),sumW s.1)=runA w (l.take i)
theorem sg_id {l:List Gl} (h: ∀ g∈l,g.1≠[32]):sg l=l:=by
 unfold Go.Fn.sg
 rw [List.filter_eq_self]
 intro g hg
 simp [h g hg]
theorem FJ.flush {w:Int} {l:List Gl} {i:Nat} {s:List Gl×Ft} (h:FJ w l i s) (hi:i≤l.length) (hl:l.length≤100000000):
  Ok (table_Fill_1 s.1 s.2) fun r=>r.1=[]∧(∃ n,FI w n r.2∧n≤3*i+1)∧(∀ g∈r.2.2.2.2.2.1,g.1=[32])∧(r.2.2.2.1=[]→r.2.2.2.2.2.1=[])∧Go.Fn.sg (told r.2)=s3 (l.take i)∧(Cnt w l→(r.2.2.1.length,(r.2.2.2.2.1,(r.2.2.2.2.2.1.length:Int)))=putA w (runA w (l.take i)).1 (runA w (l.take i)).2):=by
 obtain ⟨n,hf,hn⟩:=h.fi
 refine (fill1_ok2 hf h.bl h.lw h.wo (by omega)).imp fun r hr=>⟨hr.1,⟨_,hr.2.1,by omega⟩,hr.2.2.1,hr.2.2.2.1,?_,fun hc=>?_⟩
 ·rw [hr.2.2.2.2.1,sg_id h.wk];exact h.sg
 ·have e:=h.ct hc
  have e2:=runA_ws w (l.take i)
  have e3:=hc.2 i hi
  rw [← e] at e2
  rw [hr.2.2.2.2.2 (by rw [show sumW s.1=_ from e2];exact e3), ← e]
theorem fill_ok2 {l:List Gl} {w:Int} (hl:l.length≤100000000) (hlo:2≤w) (hhi:w≤200) (hg: ∀ g∈l,kindV g=3→GW g∧g.1≠[]):
  Ok (table_Fill l w) fun r=>r.2=0∧sg r.1.flatten=s3 l∧(Cnt w l→r.1.length=finA w (runA w l)):=by
 unfold table_Fill
 refine Ok.bind (Q:=fun b=>b=false) ?_ fun b hb=>Ok.cond (fun h=>by rw [hb] at h;cases h) fun _=>?_
 ·rw [show decide (w<(1:Int))=false from decide_eq_false (by omega)]
  exact Ok.some (decide_eq_false (by omega))
 refine Ok.bind (check_ok2 (by omega) hg) fun e he=>?_
 subst he
 refine Ok.no (by simp) ?_
 refine Ok.bind (Q:=fun r=>FJ w l l.length (r.2,r.1)) ?_ fun r hr=>?_
 ·refine Ok.range l (by omega) (fun i s=>FJ w l i s) (fun i x s hx hs=>?_) (fun s hs=>?_) { fi:=⟨0,⟨rfl,by omega,hhi,by simp,by simp,LW.nil (by omega),rfl,by simp,by simp⟩,by simp⟩,wo:=by simp,wk:=by simp,bl:=by simp,lw:=fun _=>rfl,sg:=rfl,ct:=fun _=>rfl }
  ·have hlt:=lt_len hx
   refine Ok.yes (by show (i:Int)<_;omega) (Ok.bind (Q:=fun r=>FJ w l (i+1) r) ?_ fun r hr=>Ok.inl ⟨wrapS (by omega),hr⟩)
   refine Ok.bind (Ok.idxE hx) fun y hy=>?_
   subst hy
   refine Ok.bind (kind_ok x) fun k hk=>?_
   refine Ok.bind (Q:=Nx (fun q=>q.1=s.1∧q.2.1=s.2∧(kindV x=1∨kindV x=2)) (Nx (fun q:List Gl×Ft=>FJ w l (i+1) q) (fun q:List Gl×Ft=>FJ w l (i+1) q))) ?_ fun q hq=>?_
   ·refine Ok.ifs (fun h3=>?_) fun h3=>Ok.ifs (fun h4=>?_) fun h4=>Ok.ifs (fun h5=>Ok.inl ⟨rfl,rfl, .inl (hk.symm.trans h5)⟩) fun h5=>Ok.ifs (fun h6=>Ok.inl ⟨rfl,rfl, .inr (hk.symm.trans h6)⟩) fun h6=>?_
    ·have hk3:kindV x=3:=hk.symm.trans h3
     have hgx:=(hg x (mem_at hx) hk3).1
     have hw2: ¬ w<x.2.1:=by unfold GW at hgx;omega
     refine Ok.bind (Q:=fun q=>q.1=s.1∧q.2.1=s.2∧q.2.2=x) (Ok.ifs (fun hc=>absurd hc hw2) fun _=>Ok.some ⟨rfl,rfl,rfl⟩) fun q hq=>?_
     obtain ⟨hq1,hq2,hq3⟩:=hq
     obtain ⟨n,hs1,hs2⟩:=hs.fi
     refine Ok.bind (Ok.appE (by rw [hq1];simp only [List.length_cons,List.length_nil];omega)) fun t ht=>Ok.inr ?_
     have ht:t=s.1++[x]:=by rw [ht,hq1,hq3]
     have hin: ∀ g∈s.1++[x],g∈s.1∨g=x:=fun g hg=>by simpa using hg
     show FJ w l (i+1) (t,q.2.1)
     rw [ht,hq2]
     refine { fi:=⟨n,hs1,by show n+(s.1++[x]).length≤_;rw [List.length_append];simp only [List.length_cons,List.length_nil];omega⟩,wo:=fun g hg=>?_,wk:=fun g hg=>?_,bl:=hs.bl,lw:=hs.lw,sg:=?_,ct:=fun hc=>?_ }
     ·rcases hin g hg with h | h
      ·exact hs.wo g h
      ·rw [h];exact ⟨hgx,by omega⟩
     ·rcases hin g hg with h | h
      ·exact hs.wk g h
      ·rw [h];exact kind3 x hk3
     ·show Go.Fn.sg (told s.2)++(s.1++[x])=_
      rw [s3_take hx, ← hs.sg,List.append_assoc]
      simp [s3,hk3]
     ·rw [runA_take hx, ← hs.ct hc]
      unfold stepA
      rw [if_neg (kind3 x hk3)]
      show (_,sumW (s.1++[x]))=_
      rw [sumW_app];simp [sumW]
    ·have hk0:kindV x=0:=hk.symm.trans h4
     have hx32:=(kind0 x).1 hk0
     refine Ok.bind (Q:=fun p:List Gl×Ft=>FJ w l (i+1) p) ?_ fun p hp=>Ok.inr hp
     refine Ok.bind (hs.flush (by omega) hl) fun t ht=>?_
     obtain ⟨ht1,⟨n,htf,htn⟩,htb,htl,hts,htc⟩:=ht
     refine Ok.bind (Q:=fun q=>q.2.1=[]∧q.2.2.1=t.2∧q.2.2.2=x∧q.1=(decide (0<t.2.2.2.1.length) && decide (t.2.2.2.2.2.1.length=0))) ?_ fun q hq=>?_
     ·refine Ok.ifs (fun h0=>Ok.some ⟨ht1,rfl,rfl,?_⟩) fun h0=>Ok.some ⟨ht1,rfl,rfl,?_⟩
      ·have h0:(0:Int)<(t.2.2.2.1.length:Int):=h0
       rw [decide_eq_true (show 0<t.2.2.2.1.length by omega),Bool.true_and]
       exact decide_eq_decide.2 (by omega)
      ·have h0: ¬ (0:Int)<(t.2.2.2.1.length:Int):=h0
       rw [decide_eq_false (show ¬ 0<t.2.2.2.1.length by omega),Bool.false_and]
     ·obtain ⟨hq1,hq2,hq3,hq4⟩:=hq
      have hs3:s3 (l.take (i+1))=s3 (l.take i):=by rw [s3_take hx];simp [s3,hk0]
      have hpos:=htf.at0
      refine Ok.cond (fun hc=>Ok.some ?_) fun hc=>Ok.some ?_
      ·rw [hq4,Bool.and_eq_true] at hc
       have h1:=of_decide_eq_true hc.1
       have h2:=of_decide_eq_true hc.2
       have h9:=htf
       rw [← hq2] at h9
       have hgl:q.2.2.2.1=[32]:=by rw [hq3];exact hx32
       refine { fi:=⟨n,{ h9 with ws:=by simp,w1:=by intro g hg;rw [List.mem_singleton.1 hg] },by show n+q.2.1.length≤_;rw [hq1];simp only [List.length_nil];omega⟩,wo:=by show ∀ g∈q.2.1,_;rw [hq1];simp,wk:=by show ∀ g∈q.2.1,_;rw [hq1];simp,bl:=by intro g hg;rw [List.mem_singleton.1 hg];exact hgl,lw:=fun e=>?_,sg:=?_,ct:=fun hcn=>?_ }
       ·have e:q.2.2.1.2.2.1=[]:=e
        rw [hq2] at e
        rw [e] at h1
        simp at h1
       ·show Go.Fn.sg (q.2.2.1.2.1.flatten++q.2.2.1.2.2.1)++q.2.1=_
        rw [hq1,hq2,hs3, ← hts,List.append_nil];rfl
       ·rw [runA_take hx]
        unfold stepA wtA
        rw [if_pos hx32, ← htc hcn,if_pos ⟨hpos.2 h1,by show ((t.2.2.2.2.2.1.length:Nat):Int)=0;omega⟩]
        show ((q.2.2.1.2.1.length,(q.2.2.1.2.2.2.1,(1:Int))),sumW q.2.1)=_
        rw [hq1,hq2];rfl
      ·refine { fi:=⟨n,by show FI w n q.2.2.1;rw [hq2];exact htf,by show n+q.2.1.length≤_;rw [hq1];simp only [List.length_nil];omega⟩,wo:=by show ∀ g∈q.2.1,_;rw [hq1];simp,wk:=by show ∀ g∈q.2.1,_;rw [hq1];simp,bl:=by show ∀ g∈q.2.2.1.2.2.2.2.1,_;rw [hq2];exact htb,lw:=by show q.2.2.1.2.2.1=[]→q.2.2.1.2.2.2.2.1=[];rw [hq2];exact htl,sg:=?_,ct:=fun hcn=>?_ }
       ·show Go.Fn.sg (told q.2.2.1)++q.2.1=_
        rw [hq1,hq2,hs3, ← hts,List.append_nil]
       ·rw [runA_take hx]
        unfold stepA wtA
        rw [if_pos hx32, ← htc hcn,if_neg ?_]
        ·show ((q.2.2.1.2.1.length,(q.2.2.1.2.2.2.1,(q.2.2.1.2.2.2.2.1.length:Int))),sumW q.2.1)=_
         rw [hq1,hq2];rfl
        ·rintro ⟨h1,h2⟩
         have h1:=hpos.1 h1
         have h2:((t.2.2.2.2.2.1.length:Nat):Int)=0:=h2
         rw [hq4,decide_eq_true h1,decide_eq_true (show t.2.2.2.2.2.1.length=0 by omega)] at hc
         cases hc
    ·exfalso
     have h3: ¬ k=3:=h3
     have h4: ¬ k=0:=h4
     have h5: ¬ k=1:=h5
     have h6: ¬ k=2:=h6
     rw [hk] at h3 h4 h5 h6
     unfold kindV at h3 h4 h5 h6
     revert h3 h4 h5 h6
     split
     ·intro _ h _ _;exact h rfl
     ·split
      ·intro _ _ h _;exact h rfl
      ·split
       ·intro _ _ _ h;exact h rfl
       ·intro h _ _ _;exact h rfl
   ·cases q with
    | inl a=>
     obtain ⟨ha1,ha2,hak⟩:=hq
     refine Ok.bind (Q:=fun t=>_) (by rw [ha1,ha2];exact hs.flush (by omega) hl) fun t ht=>?_
     obtain ⟨ht1,⟨n,htf,htn⟩,htb,htl,hts,htc⟩:=ht
     refine Ok.bind (leap_ok2 htf (by omega)) fun f2 hf2=>Ok.some ?_
     have hs3:s3 (l.take (i+1))=s3 (l.take i):=by
      rw [s3_take hx]
      have: ¬ kindV x=3:=by omega
      simp [s3,this]
     refine { fi:=⟨n+1,hf2.1,by show n+1+t.1.length≤_;rw [ht1];simp only [List.length_nil];omega⟩,wo:=by show ∀ g∈t.1,_;rw [ht1];simp,wk:=by show ∀ g∈t.1,_;rw [ht1];simp,bl:=by show ∀ g∈f2.2.2.2.2.1,_;rw [hf2.2.1];simp,lw:=fun _=>hf2.2.1,sg:=?_,ct:=fun hcn=>?_ }
     ·show Go.Fn.sg (told f2)++t.1=_
      rw [hf2.2.2,ht1,hts,hs3,List.append_nil]
     ·exfalso
      rcases hcn.1 x (mem_at hx) with h | h<;>omega
    | inr b=>
     cases b with
     | inl c=>exact Ok.some hq
     | inr c=>exact Ok.some hq
  ·exact Ok.no (by show ¬ ((l.length:Int)<_);omega) (Ok.inr hs)
 ·refine Ok.bind (hr.flush (Nat.le_refl _) hl) fun t ht=>?_
  obtain ⟨ht1,⟨n,htf,htn⟩,htb,htl,hts,htc⟩:=ht
  rw [List.take_length] at hts htc
  have hpos:=htf.at0
  refine Ok.bind (Q:=fun f'=>sg f'.2.1.flatten=s3 l∧(Cnt w l→f'.2.1.length=finA w (runA w l))) (Ok.ifs (fun h0=>Ok.ends ((end_eq htf (by omega)).imp fun f' hf'=>⟨?_,fun hc=>?_⟩)) fun h0=>Ok.some ⟨?_,fun hc=>?_⟩) fun f' hf'=>Ok.some ⟨rfl,hf'.1,hf'.2⟩
  ·rw [← hts,hf'.1]
   simp [told]
  ·have h0:(0:Int)<(t.2.2.2.1.length:Int):=h0
   unfold finA
   rw [← htc hc,if_pos (hpos.2 (by omega)),hf'.1]
   simp
  ·have h0: ¬ (0:Int)<(t.2.2.2.1.length:Int):=h0
   have e:t.2.2.2.1=[]:=List.eq_nil_of_length_eq_zero (by omega)
   rw [← hts]
   unfold told
   rw [e,List.append_nil]
  ·have h0: ¬ (0:Int)<(t.2.2.2.1.length:Int):=h0
   unfold finA
   rw [← htc hc,if_neg (fun h=>h0 (by have:=hpos.1 h;omega))]
end Go.Fn
/- Sheets of styles, plainly: they are checked, and what passes has all its wholes. -/
namespace Go.Fn
open Go Go.Lf
abbrev Chg:Type:=Int×(Int×(Int×Unit))
abbrev Sty:Type:=List UInt8×(List UInt8×(Chg×Unit))
theorem at_len {α:Type} {l:List α} {i:Nat} {x:α} (h:l[i]? =some x):i<l.length:=(List.getElem?_eq_some_iff.1 h).1
theorem named_ok (s:List UInt8):Ok (style_named s) fun _=>True:=by
 unfold style_named
 refine Ok.bind (Q:=fun b=>b=false→s.length≤12) ?_ fun b hb=>Ok.cond (fun _=>Ok.some trivial) fun h=>?_
 ·cases h1:decide (((s.length:Nat):Int)<1) with
  | true=>exact Ok.some (by simp)
  | false=>exact Ok.some fun h=>by have:=of_decide_eq_false h;omega
 have hl:=hb h
 refine Ok.bind (Q:=Nx (fun _=>True) fun _=>True) ?_ fun r _=>by cases r<;>exact Ok.some trivial
 refine Ok.range0 s (by omega) (fun _=>True) (fun i x hx _=>?_) (fun _=>?_) trivial
 ·have hlt:=at_len hx
  refine Ok.yes (by omega) (Ok.bind (Q:=fun _=>True) (Ok.bind (Ok.idxE hx) fun y _=>?_) fun b _=>Ok.cond (fun _=>Ok.inr trivial) fun _=>Ok.inl ⟨wrapS (by omega),trivial⟩)
  cases decide (((UInt8.toNat y:Nat):Int)<97) with
  | true=>exact Ok.some trivial
  | false=>exact Ok.bind (Ok.idxE hx) fun _ _=>Ok.some trivial
 ·exact Ok.no (by omega) (Ok.inr trivial)
theorem change_ok (c:Chg):Ok (style_change c) fun _=>True:=by
 unfold style_change
 repeat' first | exact Ok.some trivial | refine Ok.bind (Q:=fun _=>True) ?_ (fun _ _=>?_) | refine Ok.cond (fun _=>?_) (fun _=>?_)
theorem find_ok (l:List Sty) (n:List UInt8) (hl:l.length<4000000000000000000):Ok (style_Find l n) fun r=>r.2=true→ ∃ i:Nat,i<l.length∧r.1=i:=by
 unfold style_Find
 refine Ok.bind (Q:=Nx (fun _=>True) fun r:Int×Bool=> ∃ i:Nat,i<l.length∧r.1=i) ?_ fun r hr=>?_
 ·refine Ok.range0 l (by omega) (fun _=>True) (fun i x hx _=>?_) (fun _=>?_) trivial
  ·have hlt:=at_len hx
   exact Ok.yes (by omega) (Ok.bind (Ok.idxE hx) fun y _=>Ok.ifs (fun _=>Ok.inr ⟨i,hlt,rfl⟩) fun _=>Ok.inl ⟨wrapS (by omega),trivial⟩)
  ·exact Ok.no (by omega) (Ok.inr trivial)
 ·cases r with
  | inl _=>exact Ok.some fun h=>by cases h
  | inr r=>exact Ok.some fun _=>hr
theorem then_ok (a b:Chg):Ok (style_Then a b) fun _=>True:=by
 unfold style_Then
 repeat' first | exact Ok.some trivial | refine Ok.bind (Q:=fun _=>True) ?_ (fun _ _=>?_) | refine Ok.cond (fun _=>?_) (fun _=>?_)
theorem wholeB_ok {self:List Sty×Int→Option Chg} {l:List Sty} {i:Nat} {x:Sty} {v:Int×Bool} (hx:l[i]? =some x) (hv:style_Find l x.2.1=some v) (hs:v.2=true→x.2.1≠[]→ ∃ c,self (l,v.1)=some c): ∃ c,style_wholeB self l (i:Int)=some c:=by
 suffices h:Ok (style_wholeB self l (i:Int)) fun _=>True by
  obtain ⟨c,hc,_⟩:=h
  exact ⟨c,hc⟩
 unfold style_wholeB
 refine Ok.bind (Q:=fun _=>True) ⟨_,rfl,trivial⟩ fun p _=>?_
 refine Ok.bind (Q:=fun _=>True) ?_ fun q _=>Ok.bind (Ok.idxE hx) fun y _=>Ok.ends (then_ok _ _)
 refine Ok.bind (Ok.idxE hx) fun y hy=>?_
 subst hy
 refine Ok.bind (Ok.of (Q:=(v= ·)) hv rfl) fun r hr=>?_
 subst hr
 refine Ok.bind (Q:=fun q=>q.1=true→v.2=true∧x.2.1≠[]) (Ok.cond (fun h=>Ok.bind (Ok.idxE hx) fun y hy=>Ok.some fun h'=>⟨h,by subst hy;exact of_decide_eq_true h'⟩) fun _=>Ok.some fun h=>by cases h) fun q hq=>Ok.cond (fun h=>?_) fun _=>Ok.some trivial
 obtain ⟨c,hc⟩:=hs (hq h).1 (hq h).2
 exact Ok.bind (Ok.of (Q:=fun _=>True) hc trivial) fun _ _=>Ok.some trivial
theorem wholeB_mono {self self':List Sty×Int→Option Chg} (hs: ∀ z,Le (self z) (self' z)) (l:List Sty) (i:Int):Le (style_wholeB self l i) (style_wholeB self' l i):=by
 unfold style_wholeB
 repeat' first | exact hs _ | refine Le.bind ?_ (fun _=>?_) | refine Le.cond ?_ ?_ | exact Le.refl
theorem wholeN_mono: ∀ (n:Nat) z,Le (style_wholeN n z) (style_wholeN (n+1) z)
 | 0,_=>fun _ h=>by cases h
 | n+1,z=>wholeB_mono (wholeN_mono n) _ _
theorem whole_of {l:List Sty} {i:Int} {n:Nat} (h: ∃ c,style_wholeN n (l,i)=some c): ∃ c,style_whole l i=some c:=by
 obtain ⟨c,hc⟩:=h
 exact ⟨c,sup_le (g:=fun n=>style_wholeN n (l,i)) (fun n=>wholeN_mono n _) n c hc⟩
theorem ends_iter (l:List Sty) (hl:l.length<4000000000000000000) (B:Int×(Int×Bool)→Option ((Int×(Int×Bool))⊕Bool)) (hB: ∀ z1,B z1=(bif (decide (z1.1<(8:Int))) then ((Go.Lf.idx l z1.2.1)).bind fun r2=>
   ((Go.Fn.style_Find l r2.2.1)).bind fun r3=>
   (((Go.Lf.idx l z1.2.1)).bind fun r4=>
    bif (!(decide ((r4.2.1:List (UInt8))=([]:List (UInt8))))) then some (!r3.2)
    else some true).bind fun r5=>
   bif r5 then some (.inr true)
   else some (.inl ((Go.IntKind.wrap .i64 (z1.1+(1:Int))),(r3.1,z1.2.2)))
   else some (.inr z1.2.2))): ∀ (m k i N:Nat),k+m=8→m<N→i<l.length→Ok (iter B N ((k:Int),((i:Int),false))) fun r=>r=true→ ∃ c,style_wholeN m (l,(i:Int))=some c
 | _,_,_,0,_,hN,_=>by omega
 | 0,k,i,N+1,hk,_,_=>by
  unfold iter
  rw [hB]
  refine Ok.bind (Q:=Nx (fun _=>False) (fun r=>r=false)) (Ok.no (by show ¬ ((k:Int)<8);omega) (Ok.inr rfl)) fun d hd=>?_
  cases d with
  | inl z=>exact hd.elim
  | inr r=>exact Ok.some fun h=>by rw [show r=false from hd] at h;cases h
 | m+1,k,i,N+1,hk,hN,hi=>by
  unfold iter
  have hx:l[i]? =some l[i]:=List.getElem?_eq_getElem hi
  generalize l[i]=x at hx
  obtain ⟨v,hv,hvp⟩:=find_ok l x.2.1 hl
  rw [hB]
  refine Ok.bind (Q:=Nx (fun z=> ∃ j:Nat,j<l.length∧z=(((k+1:Nat):Int),((j:Int),false))∧((∃ c,style_wholeN m (l,(j:Int))=some c)→ ∃ c,style_wholeN (m+1) (l,(i:Int))=some c)) (fun r=>r=true→ ∃ c,style_wholeN (m+1) (l,(i:Int))=some c)) ?_ fun d hd=>?_
  ·refine Ok.yes (by show (k:Int)<8;omega) (Ok.bind (Ok.idxE hx) fun y hy=>?_)
   subst hy
   refine Ok.bind (Ok.of (Q:=(v= ·)) hv rfl) fun r hr=>?_
   subst hr
   refine Ok.bind (Q:=fun b=>(b=true→v.2=true→x.2.1=[])∧(b=false→v.2=true)) (Ok.bind (Ok.idxE hx) fun y hy=>?_) fun b hb=>Ok.cond (fun h=>Ok.inr fun _=>wholeB_ok hx hv fun h1 h2=>absurd (hb.1 h h1) h2) fun h=>?_
   ·subst hy
    cases h:decide (x.2.1=[]) with
    | true=>exact Ok.some ⟨fun _ _=>of_decide_eq_true h,fun h=>(by cases h)⟩
    | false=>
     refine Ok.some ?_
     cases v.2 with
     | true=>exact ⟨fun h=>(by cases h),fun _=>rfl⟩
     | false=>exact ⟨fun _ h=>(by cases h),fun h=>(by cases h)⟩
   ·obtain ⟨j,hj,hv1⟩:=hvp (hb.2 h)
    refine Ok.inl ⟨j,hj,?_,fun hc=>wholeB_ok hx hv fun _ _=>by rw [hv1];exact hc⟩
    show (IntKind.wrap .i64 ((k:Int)+1),(v.1,false))=_
    rw [wrapS (by omega),hv1]
  ·cases d with
   | inl z=>
    obtain ⟨j,hj,rfl,hw⟩:=hd
    exact (ends_iter l hl B hB m (k+1) j N (by omega) (by omega) hj).imp fun r hr h=>hw (hr h)
   | inr r=>exact Ok.some hd
theorem ends_ok (l:List Sty) (hl:l.length<4000000000000000000) {i:Nat} (hi:i<l.length):Ok (style_ends l (i:Int)) fun r=>r=true→ ∃ c,style_whole l (i:Int)=some c:=by
 unfold style_ends
 refine Ok.ends ((ends_iter l hl _ (fun _=>rfl) 8 0 i 4611686018427387904 rfl (by omega) hi).imp fun r hr h=>whole_of (hr h))
theorem scheck_ok (l:List Sty):Ok (style_Check l) fun r=>r.2=0→l.length≤64∧ ∀ i:Nat,i<l.length→ ∃ c,style_whole l (i:Int)=some c:=by
 unfold style_Check
 refine Ok.ifs (fun _=>Ok.some fun h=>by cases h) fun hl=>?_
 refine Ok.bind (Q:=Nx (fun _=>True) fun r:Int×Int=>r.2≠0) ?_ fun r hr=>?_
 ·refine Ok.range0 l (by omega) (fun _=>True) (fun i x hx _=>?_) (fun _=>?_) trivial
  ·have hlt:=at_len hx
   refine Ok.yes (by omega) (Ok.bind (Ok.idxE hx) fun y _=>Ok.bind (named_ok _) fun b _=>Ok.cond (fun _=>Ok.inr (show (60:Int)≠0 by decide)) fun _=>?_)
   refine Ok.bind (Ok.sub (Q:=fun t=>t.length≤l.length) (by omega) (by omega) (by omega) (by rw [List.length_take,List.length_drop];omega)) fun t ht=>Ok.bind (find_ok _ _ (by omega)) fun f _=>Ok.cond (fun _=>Ok.inr (show (61:Int)≠0 by decide)) fun _=>?_
   exact Ok.bind (change_ok _) fun e _=>Ok.ifs (fun h=>Ok.inr h) fun _=>Ok.inl ⟨wrapS (by omega),trivial⟩
  ·exact Ok.no (by omega) (Ok.inr trivial)
 cases r with
 | inr r=>exact Ok.some fun h=>absurd h hr
 | inl _=>
  refine Ok.bind (Q:=Nx (fun _=> ∀ i:Nat,i<l.length→ ∃ c,style_whole l (i:Int)=some c) fun r:Int×Int=>r.2≠0) ?_ fun r hr=>?_
  ·refine Ok.range0 l (by omega) (fun i=> ∀ j:Nat,j<i→ ∃ c,style_whole l (j:Int)=some c) (fun i x hx hi=>?_) (fun hi=>?_) (fun j h=>by omega)
   ·have hlt:=at_len hx
    obtain ⟨v,hv,hvp⟩:=find_ok l x.2.1 (by omega)
    refine Ok.yes (by omega) (Ok.bind (Q:=Nx (fun _=> ∃ c,style_whole l (i:Int)=some c) fun r:Int×Int=>r.2≠0) (Ok.bind (Ok.idxE hx) fun y hy=>?_) fun d hd=>?_)
    ·subst hy
     refine Ok.ifs (fun h=>Ok.inl (whole_of (n:=1) (wholeB_ok hx hv fun _ h'=>absurd h h'))) fun h=>?_
     refine Ok.bind (Ok.of (Q:=(v= ·)) hv rfl) fun r hr=>?_
     subst hr
     refine Ok.cond (fun _=>Ok.inr (by simp)) fun _=>Ok.bind (ends_ok l (by omega) hlt) fun e he=>?_
     cases e with
     | false=>exact Ok.inr (by simp)
     | true=>exact Ok.inl (he rfl)
    ·cases d with
     | inr r=>exact Ok.inr hd
     | inl _=>
      refine Ok.inl ⟨wrapS (by omega),fun j hj=>?_⟩
      by_cases h:j=i
      ·rw [h];exact hd
      ·exact hi j (by omega)
   ·exact Ok.no (by omega) (Ok.inr hi)
  ·cases r with
   | inr r=>exact Ok.some fun h=>absurd h hr
   | inl _=>exact Ok.some fun _=>⟨by omega,hr⟩
theorem sWhole_ok (l:List Sty) (hl:l.length≤64) (n:List UInt8):Ok (style_Whole l n) fun _=>True:=by
 unfold style_Whole
 refine Ok.bind (scheck_ok l) fun e he=>Ok.ifs (fun _=>Ok.some trivial) fun h0=>?_
 obtain ⟨_,hw⟩:=he (Decidable.not_not.1 h0)
 refine Ok.bind (find_ok l n (by omega)) fun r hr=>?_
 obtain ⟨v,b⟩:=r
 cases b with
 | false=>exact Ok.some trivial
 | true=>
  obtain ⟨i,hi,rfl⟩:=hr rfl
  obtain ⟨c,hc⟩:=hw i hi
  exact Ok.bind (Ok.of (Q:=fun _=>True) hc trivial) fun _ _=>Ok.some trivial
end Go.Fn
/- The setter, plainly, on operations without lists and tables: what each does. -/
namespace Go.Fn
open Go Go.Lf
abbrev Lok:Type:=Int×(Int×Unit)
abbrev Tgt:Type:=Int×(Int×Unit)
abbrev Sx:Type:=xT7×xT191
abbrev sMany (s:Sx):Int:=s.2.1.2.2.1
abbrev sFlow (s:Sx):List Gl:=s.2.2.2.2.2.2.2.1
abbrev sLink (s:Sx):Int:=s.2.2.2.2.2.2.2.2.1
abbrev sL (s:Sx):List (List Gl):=s.2.2.2.2.2.2.2.2.2.1.1
abbrev sLinks (s:Sx):List Tgt:=s.2.2.2.2.2.2.2.2.2.1.2.2.1
abbrev sMore (s:Sx):Bool:=s.2.2.2.2.2.2.2.2.2.1.2.2.2.1
abbrev sLn (s:Sx):List Int:=arL (.int .i64) 32 s.2.1.2.1
abbrev Vw:Type:=(List (List Gl)×Bool)×(List Gl×(Int×List Tgt))
def vw (s:Sx):Vw:=((sL s,sMore s),(sFlow s,(sLink s,sLinks s)))
structure SI (ch:List Chg) (wd:Int) (ks:List Int) (s:Sx):Prop where
 mr:s.1.1=0
 mn:sMany s=ks.length
 ch:s.2.2.1=ch
 wd:s.2.2.2.1=wd
 mg:s.2.2.2.2.1=0
 tb:s.2.2.2.2.2.2.1=none
 ln: ∀ (i:Nat) k,ks[i]? =some k→(sLn s)[i]? =some (if k=3∨k=4 then 1 else 0)
 fl:FlK ks
def tellS (p:List (List Gl)×Bool) (l:List Gl):List (List Gl)×Bool:=if 2000≤p.1.length then (p.1,true) else (p.1++[l],p.2)
theorem tellS_len (p:List (List Gl)×Bool) (l:List Gl) (h:p.1.length≤2000):(tellS p l).1.length≤2000:=by
 unfold tellS
 split
 ·exact h
 ·rw [List.length_append];simp only [List.length_cons,List.length_nil];omega
def glyC (lk:Lok) (n:Int) (c:Cel):Gl:=(c.1,(c.2.2.1,(lk,(n,()))))
def EffP (wd:Int) (ks:List Int) (last:Int) (o:Opr) (v v':Vw):Prop:=
 (o.1=8∧(v'.1=v.1∨(last=9∧v'.1=tellS v.1 []))∧v'.2=([],v.2.2))∨
 (o.1=1∧ ∃ lk,v'=(v.1,(v.2.1++(cellsS o.2.2.1).map (glyC lk v.2.2.1),v.2.2)))∨
 ((o.1=6∨o.1=7)∧ ∃ lk b,(b=9∨b=10)∧v'=(v.1,(v.2.1++[([b],((1:Int),(lk,(v.2.2.1,()))))],v.2.2)))∨
 (o.1=2∧v'=v)∨
 ((o.1=3∨o.1=4)∧ ∃ t,v'=(v.1,(v.2.1,(((v.2.2.2.length+1:Nat):Int),v.2.2.2++[t]))))∨
 (o.1=5∧v'=(v.1,(v.2.1,(if ks.getLast? =some 2 then v.2.2.1 else 0,v.2.2.2))))∨
 (o.1=9∧ ∃ ls,Ok (table_Fill v.2.1 wd) (fun r=>r.1=ls)∧v'.1=ls.foldl tellS v.1∧v'.2=v.2)
theorem apply_ok (l:Lok) (c:Chg):Ok (style_Apply l c) fun _=>True:=by
 unfold style_Apply
 exact Ok.bind (Q:=fun _=>True) (Ok.ifs (fun _=>Ok.some trivial) fun _=>Ok.some trivial) fun _ _=>Ok.some trivial
theorem cells_len (t:List UInt8):(cellsS t).length≤t.length:=by
 have key: ∀ (l:List Chr) (acc:List Cel),(l.foldl (addC t) acc).length≤acc.length+l.length:=by
  intro l
  induction l with
  | nil=>intro acc;simp
  | cons c r ih=>
   intro acc
   have h1:=ih (addC t acc c)
   have h2:=addC_len t acc c
   simp only [List.foldl_cons,List.length_cons]
   omega
 have h1:=key (chS t t.length 0) []
 have h2:=ch_len t t.length 0
 unfold cellsS
 simp only [List.length_nil] at h1
 omega
theorem FlK.one {ks:List Int} (h:FlK ks) (hl:ks.length=1):ks=[8]:=by
 rcases h with rfl | ⟨r,rfl,_,_⟩
 ·simp at hl
 ·cases r with
  | nil=>rfl
  | cons a r=>simp at hl
section
variable {ch:List Chg} {wd:Int} {ks:List Int} {s:Sx}
theorem top_ok (h:SI ch wd ks s):Ok (layout_looks__top s.2.1) fun _=>True:=by
 unfold layout_looks__top
 have hl:=h.fl.len
 have hm:s.2.1.2.2.1=ks.length:=h.mn
 refine Ok.ifs (fun _=>Ok.sb (Ok.some trivial)) fun h0=>Ok.ends ?_
 have h0: ¬ s.2.1.2.2.1=0:=h0
 rw [hm] at h0
 have e1:IntKind.wrap .i64 (s.2.1.2.2.1 - 1)=((ks.length - 1:Nat):Int):=by rw [hm,wrap64 (by omega) (by omega)];omega
 rw [e1]
 have hlen:(arL (.st xY1) 32 s.2.1.1).length=32:=arL_len
 exact Ok.at_ (Q:=fun _=>True) (by omega) (by rw [hlen,Int.toNat_natCast];omega) trivial
theorem styled_ok (h:SI ch wd ks s) {n:Int} (hn:n<ch.length):Ok (layout_setter__styled s n) fun r=>r.2=s:=by
 unfold layout_setter__styled
 refine Ok.ifs (fun _=>Ok.bind (top_ok h) fun _ _=>Ok.some rfl) fun h0=>Ok.bind (top_ok h) fun l _=>?_
 have h0: ¬ n<0:=h0
 have hc:=h.ch
 refine Ok.bind (Ok.at_ (Q:=fun _=>True) (by omega) (by rw [hc];omega) trivial) fun c _=>Ok.bind (apply_ok l c) fun _ _=>Ok.some rfl
theorem lay_ok (h:SI ch wd ks s) (l:Lok) {n k:Int} (hk:FlK (ks++[k])) (hn:n=if k=3∨k=4 then 1 else 0):Ok (layout_looks__lay s l n) fun s'=>SI ch wd (ks++[k]) s'∧vw s'=vw s:=by
 unfold layout_looks__lay
 have hl:=hk.len
 rw [List.length_append] at hl
 simp only [List.length_cons,List.length_nil] at hl
 have hm:s.2.1.2.2.1=ks.length:=h.mn
 have hlen1:(arL (.st xY1) 32 s.2.1.1).length=32:=arL_len
 have hlen2:(sLn s).length=32:=arL_len
 refine Ok.bind (Ok.chk (Q:=(· =ks.length)) (by omega) (by omega) (by omega)) fun j hj=>?_
 subst hj
 refine Ok.bind (Ok.nth (Q:=fun _=>True) (Nat.lt_of_lt_of_eq (by omega:ks.length<32) hlen1.symm) trivial) fun _ _=>?_
 refine Ok.bind (Ok.chk (Q:=(· =ks.length)) (by omega) (by omega) (by omega)) fun j hj=>?_
 subst hj
 refine Ok.bind (Ok.nth (Q:=fun _=>True) (Nat.lt_of_lt_of_eq (by omega:ks.length<32) hlen2.symm) trivial) fun _ _=>Ok.some ⟨?_,rfl⟩
 refine { mr:=h.mr,mn:=?_,ch:=h.ch,wd:=h.wd,mg:=h.mg,tb:=h.tb,ln:=fun i k' hi=>?_,fl:=hk }
 ·show IntKind.wrap .i64 (s.2.1.2.2.1+1)=_
  rw [hm,wrap64 (by omega) (by omega),List.length_append];rfl
 ·have e:arL (.int .i64) 32 (arS (.int .i64) 32 s.2.1.2.1 ks.length n)=(sLn s).set ks.length n:=arL_arS
  show (arL (.int .i64) 32 (arS (.int .i64) 32 s.2.1.2.1 ks.length n))[i]? =_
  rw [e]
  by_cases he:i=ks.length
  ·subst he
   rw [List.getElem?_append_right (Nat.le_refl _),Nat.sub_self] at hi
   have hi:k=k':=by simpa using hi
   rw [List.getElem?_set_self (by omega), ← hi,hn]
  ·have hil:=lt_len hi
   rw [List.length_append] at hil
   have hil:i<ks.length:=by simp only [List.length_cons,List.length_nil] at hil;omega
   rw [List.getElem?_append_left hil] at hi
   rw [List.getElem?_set_ne (by omega)]
   exact h.ln i k' hi
theorem tell_ok (h:SI ch wd ks s) (l:List Gl) (hb:(sL s).length≤2000):Ok (layout_setter__tell s l) fun s'=>SI ch wd ks s'∧vw s'=(tellS (sL s,sMore s) l,(vw s).2):=by
 unfold layout_setter__tell
 refine Ok.ifs (fun hc=>Ok.some ⟨⟨h.mr,h.mn,h.ch,h.wd,h.mg,h.tb,h.ln,h.fl⟩,?_⟩) fun hc=>?_
 ·have hc:(2000:Int)≤((sL s).length:Int):=hc
  unfold tellS
  rw [if_pos (by show 2000≤(sL s).length;omega)];rfl
 ·have hc: ¬ (2000:Int)≤((sL s).length:Int):=hc
  refine Ok.bind (Ok.appE (by simp only [List.length_cons,List.length_nil];omega)) fun r hr=>Ok.some ⟨⟨h.mr,h.mn,h.ch,h.wd,h.mg,h.tb,h.ln,h.fl⟩,?_⟩
  subst hr
  unfold tellS
  rw [if_neg (by show ¬ 2000≤(sL s).length;omega)];rfl
theorem waiting_eq (h:SI ch wd ks s):layout_marker__waiting s.1=some false:=by
 unfold layout_marker__waiting
 have hm:s.1.1=0:=h.mr
 rw [show (s.1).1=0 from hm];rfl
theorem padded_eq (l:List Gl):layout_padded l 0=some l:=by
 refine Ok.eq ?_
 unfold layout_padded
 refine Ok.ends (Ok.loop (fun _ z=>z=l) (fun _ z hz=>?_) 0 _ (by omega) rfl)
 subst hz
 exact Ok.no (by show ¬ ((z.length:Int)<0);omega) (Ok.inr rfl)
theorem done_ok (h:SI ch wd [8] s) (hw:2≤wd∧wd≤200) (hf:(sFlow s).length≤10000000) (hg: ∀ g∈sFlow s,kindV g=3→GW g∧g.1≠[]) (hb:(sL s).length≤2000):
  Ok (layout_setter__done s) fun s'=>SI ch wd [] s'∧ ∃ ls,Ok (table_Fill (sFlow s) wd) (fun r=>r.1=ls)∧vw s'=(ls.foldl tellS (sL s,sMore s),(vw s).2):=by
 unfold layout_setter__done
 have htb:s.2.2.2.2.2.2.1=none:=h.tb
 have hwd:s.2.2.2.1=wd:=h.wd
 have hmg:s.2.2.2.2.1=0:=h.mg
 have hmn:s.2.1.2.2.1=((1:Nat):Int):=h.mn
 rw [htb]
 refine Ok.no (by show ¬ ((0:Int)<((0:Nat):Int));omega) ?_
 have ew:IntKind.wrap .i64 (s.2.2.2.1 - s.2.2.2.2.1)=wd:=by rw [hwd,hmg,wrap64 (by omega) (by omega)];omega
 rw [ew]
 obtain ⟨r,hr,hr2⟩:=fill_ok (l:=sFlow s) (w:=wd) (by omega)
 rw [show table_Fill s.2.2.2.2.2.2.2.1 wd=some r from hr,Option.bind_some]
 have h0:SI ch wd [] (s.1,((Go.Lf.u2 s.2.1 ((Go.IntKind.wrap .i64 (s.2.1.2.2.1 - (1:Int))),s.2.1.2.2.2)),s.2.2)):=by
  refine { mr:=h.mr,mn:=?_,ch:=h.ch,wd:=h.wd,mg:=h.mg,tb:=h.tb,ln:=fun i k hi=>(by simp at hi),fl:= .inl rfl }
  show IntKind.wrap .i64 (s.2.1.2.2.1 - 1)=_
  rw [hmn];rfl
 refine Ok.bind (Q:=fun s1=>SI ch wd [] s1∧vw s1=vw s) (Ok.ifs (fun _=>?_) fun _=>Ok.some ⟨h0,rfl⟩) fun s1 hs1=>?_
 ·unfold layout_setter__drop
  rw [waiting_eq h0,Option.bind_some]
  exact Ok.some ⟨⟨rfl,h0.mn,h0.ch,h0.wd,h0.mg,h0.tb,h0.ln,h0.fl⟩,rfl⟩
 ·refine Ok.ends (Ok.range r.1 (by omega) (fun i s'=>SI ch wd [] s'∧vw s'=((r.1.take i).foldl tellS (sL s,sMore s),(vw s).2)∧(sL s').length≤2000) (fun i x s' hx hs'=>?_) (fun s' hs'=>?_) ⟨hs1.1,hs1.2,?_⟩)
  ·obtain ⟨hi1,hi2,hi3⟩:=hs'
   have hlt:=lt_len hx
   have hx2:=(hr2.2 x (mem_at hx)).1.len
   refine Ok.yes (by show (i:Int)<_;omega) ?_
   rw [show layout_marker__waiting (s'.1)=some false from waiting_eq hi1,Option.bind_some]
   refine Ok.bind (Q:=(· =(([]:List Gl),s'))) (Ok.of rfl rfl) fun r7 h7=>?_
   subst h7
   have hm':s'.2.2.2.2.1=0:=hi1.mg
   show Ok ((layout_padded [] s'.2.2.2.2.1).bind _) _
   rw [hm',padded_eq,Option.bind_some]
   refine Ok.bind (Ok.idxE hx) fun y hy=>?_
   subst hy
   refine Ok.bind (Ok.appE (by simp only [List.length_nil];omega)) fun z hz=>?_
   rw [List.nil_append] at hz
   subst hz
   refine Ok.bind (tell_ok hi1 z hi3) fun s2 hs2=>Ok.inl ⟨wrapS (by omega),hs2.1,?_,?_⟩
   ·rw [hs2.2,List.take_add_one,hx,List.foldl_append]
    have e:=congrArg Prod.fst hi2
    have e2:=congrArg Prod.snd hi2
    show (tellS (vw s').1 z,(vw s').2)=_
    rw [e,e2];rfl
   ·have e:=congrArg (fun v:Vw=>v.1.1) hs2.2
    show (vw s2).1.1.length≤_
    rw [show (vw s2).1.1=_ from e]
    exact tellS_len _ _ hi3
  ·refine Ok.no (by show ¬ ((r.1.length:Int)<_);omega) (Ok.inr ⟨hs'.1,r.1,⟨r,rfl,rfl⟩,?_⟩)
   have:=hs'.2.1
   rw [List.take_length] at this
   exact this
  ·have e:=congrArg (fun v:Vw=>v.1.1) hs1.2
   show (vw s1).1.1.length≤_
   rw [show (vw s1).1.1=_ from e]
   exact hb
theorem link_do (h:SI ch wd ks s) {N:Int} {T:List UInt8} {W:List Int} {u:Unit} {last:Int} {k:Int} {ks':List Int} (hkc:k=3∨k=4) (hk:nextK ks k=some ks') (hne:k≠8→ks≠[]) (hlk:(sLinks s).length≤1000000):
  Ok (layout_setter__do s (k,(N,(T,(W,u)))) last) fun s'=>SI ch wd ks' s'∧EffP wd ks last (k,(N,(T,(W,u)))) (vw s) (vw s'):=by
 unfold layout_setter__do
 have nk: ∀ j:Int,j≠3∧j≠4→ ¬ k=j:=fun j hj=>by omega
 refine Ok.no (nk 8 (by decide)) (Ok.no (nk 1 (by decide)) (Ok.no (nk 6 (by decide)) (Ok.no (nk 7 (by decide)) (Ok.no (nk 2 (by decide)) ?_))))
 have hks:=hne (by omega)
 unfold nextK at hk
 rw [if_neg (by omega),if_neg hks,if_neg (by omega),if_neg (by omega),if_pos hkc] at hk
 by_cases h16:(∀ j∈ks,j≠3∧j≠4)∧ks.length≤16
 case neg=>rw [if_neg h16] at hk;cases hk
 rw [if_pos h16] at hk
 injection hk with hk
 subst hk
 refine Ok.bind (Q:=fun r=>r.1=true∧r.2=(s,(k,(N,(T,(W,u)))))) (Ok.ifs (fun h3=>Ok.some ⟨decide_eq_true h3,rfl⟩) fun h3=>Ok.some ⟨decide_eq_true (hkc.resolve_left h3),rfl⟩) fun r hr=>?_
 obtain ⟨b,r⟩:=r
 obtain ⟨hb1,hr⟩:=hr
 dsimp only at hb1 hr
 subst hb1 hr
 refine Ok.cond (fun _=>?_) fun h=>(by cases h)
 refine Ok.bind (Q:=fun r=>r.2=(s,(k,(N,(T,(W,u)))))) (Ok.ifs (fun _=>Ok.some rfl) fun _=>Ok.some rfl) fun r hr=>?_
 obtain ⟨b,r⟩:=r
 dsimp only at hr
 subst hr
 refine Ok.bind (Ok.appE (by show ((sLinks s).length+1)*16≤_;omega)) fun ls hls=>Ok.bind (top_ok h) fun lk _=>?_
 have h8:SI ch wd ks (Go.Lf.u8 s ((((List.length ls):Nat):Int),((Go.Lf.u2 s.2.2.2.2.2.2.2.2.2.1 (ls,s.2.2.2.2.2.2.2.2.2.1.2.2.2)),s.2.2.2.2.2.2.2.2.2.2))):=⟨h.mr,h.mn,h.ch,h.wd,h.mg,h.tb,h.ln,h.fl⟩
 refine Ok.ends ((lay_ok h8 lk (k:=k) (n:=1) (h.fl.cons hks (.inr hkc) h16.2) (by rw [if_pos hkc])).imp fun s' hs'=>⟨hs'.1, .inr (.inr (.inr (.inr (.inl ⟨hkc,?_⟩))))⟩)
 refine ⟨(b,(N,())),?_⟩
 rw [hs'.2]
 show ((sL s,sMore s),(sFlow s,(((ls.length:Nat):Int),ls)))=_
 rw [hls,List.length_append];rfl
theorem do_ok (h:SI ch wd ks s) {o:Opr} {last:Int} {ks':List Int} {nt lst:Int} (hF:FmP ch.length nt lst o) (hk:nextK ks o.1=some ks') (hw:2≤wd∧wd≤200) (hT:o.2.2.1.length≤1048576)
  (hf:(sFlow s).length≤8000000) (hg: ∀ g∈sFlow s,kindV g=3→GW g∧g.1≠[]) (hb:(sL s).length≤2000) (hlk:(sLinks s).length≤1000000):
  Ok (layout_setter__do s o last) fun s'=>SI ch wd ks' s'∧EffP wd ks last o (vw s) (vw s'):=by
 obtain ⟨k,N,T,W,u⟩:=o
 dsimp only at hk hT
 have hl:=h.fl.len
 have hkk:=hF.kind
 dsimp only at hkk
 unfold layout_setter__do
 have hcase:k=1∨k=2∨k=3∨k=4∨k=5∨k=6∨k=7∨k=8∨k=9:=by omega
 have hne:k≠8→ks≠[]:=fun h8 e=>by
  unfold nextK at hk
  rw [if_neg h8,if_pos e] at hk
  cases hk
 have hsame:k=1∨k=6∨k=7→ks'=ks:=fun hkc=>by
  unfold nextK at hk
  rw [if_neg (by omega),if_neg (hne (by omega)),if_pos hkc] at hk
  injection hk with hk
  exact hk.symm
 have hflow: ∀ (fl:List Gl),SI ch wd ks (Go.Lf.u7 s (fl,s.2.2.2.2.2.2.2.2)):=fun fl=>⟨h.mr,h.mn,h.ch,h.wd,h.mg,h.tb,h.ln,h.fl⟩
 rcases hcase with rfl | rfl | rfl | rfl | rfl | rfl | rfl | rfl | rfl
 ·-- a text
  refine Ok.no (of_decide_eq_false rfl) (Ok.yes rfl ?_)
  have hks:=hsame (.inl rfl)
  subst hks
  rw [show text_Cells ((1:Int),(N,(T,(W,u)))).2.2.1=some (cellsS T) from cells_eq T (by omega),Option.bind_some]
  have hcl:=cells_len T
  obtain ⟨lk,hlk',_⟩:=top_ok h
  refine Ok.ends ((Ok.range (cellsS T) (by omega) (Q:=fun s'=>s'=Go.Lf.u7 s (sFlow s++(cellsS T).map (glyC lk (sLink s)),s.2.2.2.2.2.2.2.2)) (fun i s'=>s'=Go.Lf.u7 s (sFlow s++((cellsS T).take i).map (glyC lk (sLink s)),s.2.2.2.2.2.2.2.2)) (fun i x s' hx hs'=>?_) (fun s' hs'=>?_) ?_).imp fun s' hs'=>?_)
  ·have hlt:=lt_len hx
   subst hs'
   refine Ok.yes (by show (i:Int)<_;omega) (Ok.bind (Ok.idxE hx) fun y hy=>?_)
   subst hy
   rw [show layout_looks__top (Go.Lf.u7 s (sFlow s++((cellsS T).take i).map (glyC lk (sLink s)),s.2.2.2.2.2.2.2.2)).2.1=some lk from hlk',Option.bind_some]
   refine Ok.bind (Q:=(· =(sFlow s++((cellsS T).take i).map (glyC lk (sLink s)))++[glyC lk (sLink s) x])) (Ok.app ?_ rfl) fun r hr=>Ok.inl ⟨wrapS (by omega),?_⟩
   ·show ((sFlow s++((cellsS T).take i).map (glyC lk (sLink s))).length+1)*48≤_
    rw [List.length_append,List.length_map,List.length_take]
    omega
   ·subst hr
    rw [List.take_add_one,hx,List.map_append, ← List.append_assoc];rfl
  ·rw [List.take_length] at hs'
   exact Ok.no (by show ¬ (((cellsS T).length:Int)<_);omega) (Ok.inr hs')
  ·show s=_
   simp only [List.take_zero,List.map_nil,List.append_nil]
  ·subst hs'
   exact ⟨hflow _, .inr (.inl ⟨rfl,lk,rfl⟩)⟩
 ·-- a style
  refine Ok.no (of_decide_eq_false rfl) (Ok.no (of_decide_eq_false rfl) (Ok.no (of_decide_eq_false rfl) (Ok.no (of_decide_eq_false rfl) (Ok.yes rfl ?_))))
  have hN:N<ch.length:=by
   obtain ⟨_,h1 | h1 | h1 | h1 | h1⟩:=hF
   ·have:=h1.1;dsimp only at this;omega
   ·exact h1.2.2.1
   ·have:=h1.1;dsimp only at this;omega
   ·have:=h1.1;dsimp only at this;omega
   ·have:=h1.1;dsimp only at this;omega
  have hks:=hne (by omega)
  unfold nextK at hk
  rw [if_neg (by omega),if_neg hks,if_neg (by omega),if_pos rfl] at hk
  by_cases h16:ks.length≤16
  case neg=>rw [if_neg h16] at hk;cases hk
  rw [if_pos h16] at hk
  injection hk with hk
  subst hk
  refine Ok.bind (styled_ok h hN) fun r hr=>?_
  obtain ⟨lk,s2⟩:=r
  dsimp only at hr
  subst hr
  exact Ok.ends ((lay_ok h lk (k:=2) (h.fl.cons hks (.inl rfl) h16) rfl).imp fun s' hs'=>⟨hs'.1, .inr (.inr (.inr (.inl ⟨rfl,hs'.2⟩)))⟩)
 ·exact link_do h (.inl rfl) hk hne hlk
 ·exact link_do h (.inr rfl) hk hne hlk
 ·-- a brace
  refine Ok.no (of_decide_eq_false rfl) (Ok.no (of_decide_eq_false rfl) (Ok.no (of_decide_eq_false rfl) (Ok.no (of_decide_eq_false rfl) (Ok.no (of_decide_eq_false rfl) ?_))))
  refine Ok.bind (Q:=(· =(false,(s,((5:Int),(N,(T,(W,u))))))) ) (Ok.of rfl rfl) fun r hr=>?_
  subst hr
  refine Ok.cond (fun h=>by cases h) fun _=>Ok.yes rfl ?_
  have hks:=hne (by omega)
  unfold nextK at hk
  rw [if_neg (by omega),if_neg hks,if_neg (by omega),if_neg (by omega),if_neg (by omega),if_pos rfl] at hk
  by_cases h2:2≤ks.length
  case neg=>rw [if_neg h2] at hk;cases hk
  rw [if_pos h2] at hk
  injection hk with hk
  subst hk
  have hm:s.2.1.2.2.1=ks.length:=h.mn
  have e1:IntKind.wrap .i64 (s.2.1.2.2.1 - 1)=((ks.length - 1:Nat):Int):=by rw [hm,wrap64 (by omega) (by omega)];omega
  have hlast:ks[ks.length - 1]? =some ks[ks.length - 1]:=List.getElem?_eq_getElem (by omega)
  have hln:=h.ln _ _ hlast
  have hgl:ks.getLast? =some ks[ks.length - 1]:=by rw [List.getLast?_eq_getElem?,hlast]
  have hkind:=h.fl.get hlast
  refine Ok.bind (Q:=(· =ks.length - 1)) (by show Ok (chk 32 (IntKind.wrap .i64 (s.2.1.2.2.1 - 1))) _;rw [e1];exact Ok.chk (by omega) (by omega) (by omega)) fun j hj=>?_
  subst hj
  refine Ok.bind (Ok.of hln (Q:=(· =if ks[ks.length - 1]=3∨ks[ks.length - 1]=4 then 1 else 0)) rfl) fun x hx=>?_
  have base: ∀ (n:Int),SI ch wd ks.dropLast (s.1,((Go.Lf.u2 s.2.1 ((Go.IntKind.wrap .i64 (s.2.1.2.2.1 - (1:Int))),s.2.1.2.2.2)),(Go.Lf.u6 s.2.2 (n,s.2.2.2.2.2.2.2.2.2)))):=fun n=>by
   refine { mr:=h.mr,mn:=?_,ch:=h.ch,wd:=h.wd,mg:=h.mg,tb:=h.tb,ln:=fun i k hi=>?_,fl:=h.fl.drop h2 }
   ·show IntKind.wrap .i64 (s.2.1.2.2.1 - 1)=_
    rw [e1,List.length_dropLast]
   ·have hil:=lt_len hi
    rw [List.length_dropLast] at hil
    rw [List.getElem?_dropLast,if_pos (by omega)] at hi
    exact h.ln i k hi
  refine Ok.ifs (fun hc=>Ok.some ⟨base 0,?_⟩) fun hc=>Ok.some ⟨base (sLink s),?_⟩
  ·have hc:x=1:=hc
   refine .inr (.inr (.inr (.inr (.inr (.inl ⟨rfl,?_⟩)))))
   rw [hgl]
   have:ks[ks.length - 1]≠2:=fun e=>by rw [hx,if_neg (by omega)] at hc;cases hc
   rw [if_neg (by simpa using this)];rfl
  ·have hc: ¬ x=1:=hc
   refine .inr (.inr (.inr (.inr (.inr (.inl ⟨rfl,?_⟩)))))
   rw [hgl]
   have:ks[ks.length - 1]=2:=by
    rcases hkind with ⟨h0,_⟩ | ⟨_,h0 | h0⟩
    ·omega
    ·exact h0
    ·exact absurd (by rw [hx,if_pos h0]) hc
   rw [this,if_pos rfl];rfl
 ·refine Ok.no (of_decide_eq_false rfl) (Ok.no (of_decide_eq_false rfl) (Ok.yes rfl ?_))
  have hks:=hsame (.inr (.inl rfl))
  subst hks
  refine Ok.bind (top_ok h) fun lk _=>Ok.bind (Ok.appE (by show ((sFlow s).length+1)*48≤_;omega)) fun r hr=>Ok.some ⟨hflow _,?_⟩
  subst hr
  exact .inr (.inr (.inl ⟨.inl rfl,lk,9, .inl rfl,rfl⟩))
 ·refine Ok.no (of_decide_eq_false rfl) (Ok.no (of_decide_eq_false rfl) (Ok.no (of_decide_eq_false rfl) (Ok.yes rfl ?_)))
  have hks:=hsame (.inr (.inr rfl))
  subst hks
  refine Ok.bind (top_ok h) fun lk _=>Ok.bind (Ok.appE (by show ((sFlow s).length+1)*48≤_;omega)) fun r hr=>Ok.some ⟨hflow _,?_⟩
  subst hr
  exact .inr (.inr (.inl ⟨.inr rfl,lk,10, .inr rfl,rfl⟩))
 ·-- a paragraph
  refine Ok.yes rfl ?_
  have hN:N<ch.length:=by
   obtain ⟨_,h1 | h1 | h1 | h1 | h1⟩:=hF
   ·have:=h1.1;dsimp only at this;omega
   ·have:=h1.1;dsimp only at this;omega
   ·have:=h1.1;dsimp only at this;omega
   ·exact h1.2.2.1
   ·have:=h1.1;dsimp only at this;omega
  unfold nextK at hk
  rw [if_pos rfl] at hk
  by_cases hks:ks=[]
  case neg=>rw [if_neg hks] at hk;cases hk
  rw [if_pos hks] at hk
  injection hk with hk
  subst hk hks
  refine Ok.bind (Q:=fun r=>r.2=((8:Int),(N,(T,(W,u))))∧SI ch wd [] r.1∧((vw r.1).1=(vw s).1∨(last=9∧(vw r.1).1=tellS (vw s).1 []))∧(vw r.1).2=(vw s).2) ?_ fun r4 hr4=>?_
  ·refine Ok.bind (Q:=fun r=>r.2=(s,((8:Int),(N,(T,(W,u)))))∧(r.1=true→last=9)) ?_ fun r2 hr2=>?_
   ·refine Ok.ifs (fun h9=>?_) fun _=>Ok.some ⟨rfl,fun h=>(by cases h)⟩
    rw [waiting_eq h,Option.bind_some]
    exact Ok.some ⟨rfl,fun _=>h9⟩
   ·obtain ⟨b,r2⟩:=r2
    obtain ⟨hr2,h9⟩:=hr2
    dsimp only at hr2 h9
    subst hr2
    refine Ok.cond (fun hbt=>Ok.bind (tell_ok h [] hb) fun s1 hs1=>Ok.some ⟨rfl,hs1.1,?_,?_⟩) fun _=>Ok.some ⟨rfl,h, .inl rfl,rfl⟩
    ·right
     rw [hs1.2];exact ⟨h9 hbt,rfl⟩
    ·rw [hs1.2]
  ·obtain ⟨s4,o4⟩:=r4
   obtain ⟨ho4,hs4,hv1,hv2⟩:=hr4
   dsimp only at ho4 hs4 hv1 hv2 ⊢
   subst ho4
   have h5:SI ch wd [] (Go.Lf.u7 s4 (([]:List Gl),s4.2.2.2.2.2.2.2.2)):=⟨hs4.mr,hs4.mn,hs4.ch,hs4.wd,hs4.mg,hs4.tb,hs4.ln,hs4.fl⟩
   refine Ok.bind (styled_ok h5 hN) fun r hr=>?_
   obtain ⟨lk,s2⟩:=r
   dsimp only at hr
   subst hr
   refine Ok.ends ((lay_ok h5 lk (k:=8) (.inr ⟨[],rfl,by simp,by simp⟩) rfl).imp fun s' hs'=>⟨hs'.1, .inl ⟨rfl,?_,?_⟩⟩)
   ·rw [hs'.2];exact hv1
   ·rw [hs'.2]
    show (([]:List Gl),(vw s4).2.2)=_
    rw [hv2]
 ·-- the paragraph's end
  refine Ok.no (of_decide_eq_false rfl) (Ok.no (of_decide_eq_false rfl) (Ok.no (of_decide_eq_false rfl) (Ok.no (of_decide_eq_false rfl) (Ok.no (of_decide_eq_false rfl) ?_))))
  refine Ok.bind (Q:=(· =(false,(s,((9:Int),(N,(T,(W,u))))))) ) (Ok.of rfl rfl) fun r hr=>?_
  subst hr
  refine Ok.cond (fun h=>by cases h) fun _=>Ok.no (of_decide_eq_false rfl) (Ok.yes rfl ?_)
  have hks:=hne (by omega)
  unfold nextK at hk
  rw [if_neg (by omega),if_neg hks,if_neg (by omega),if_neg (by omega),if_neg (by omega),if_neg (by omega),if_pos rfl] at hk
  by_cases h1:ks.length=1
  case neg=>rw [if_neg h1] at hk;cases hk
  rw [if_pos h1] at hk
  injection hk with hk
  have e8:=h.fl.one h1
  subst hk e8
  refine Ok.ends ((done_ok h hw (by omega) hg hb).imp fun s' hs'=>⟨hs'.1,?_⟩)
  obtain ⟨ls,hls,hv⟩:=hs'.2
  refine .inr (.inr (.inr (.inr (.inr (.inr ⟨rfl,ls,hls,?_,?_⟩)))))
  ·rw [hv];rfl
  ·rw [hv]
end
end Go.Fn
/- A topic without lists and tables, laid out, plainly. -/
namespace Go.Fn
open Go Go.Lf
abbrev Rc:Type:=Int×(Int×(Int×(Int×Unit)))
def LnO (ls:List (List Gl)):Prop:=ls.length≤2000∧ ∀ l∈ls,l.length≤5000
theorem rects_ok (ls:List (List Gl)) (h:LnO ls):Ok (layout_Rects ls) fun r=>r.length≤100000000:=by
 unfold layout_Rects
 obtain ⟨h1,h2⟩:=h
 refine Ok.ends (Ok.loop (fun k (z:List Rc×Int)=> ∃ i:Nat,z.2=i∧i+k=ls.length∧z.1.length≤5000*i) (fun k z hz=>?_) ls.length _ (by omega) ⟨0,rfl,by omega,by show (0:Nat)≤_;omega⟩)
 obtain ⟨out,n⟩:=z
 obtain ⟨i,hz1,hz2,hz3⟩:=hz
 dsimp only at hz1 hz3 ⊢
 subst hz1
 refine Ok.ifs (fun hlt=>?_) fun _=>Ok.inr (by omega)
 have hi:i<ls.length:=by omega
 have hx:ls[i]? =some ls[i]:=List.getElem?_eq_getElem hi
 have hl:=h2 ls[i] (List.getElem_mem hi)
 generalize ls[i]=l at hx hl
 refine Ok.bind (Ok.idxE hx) fun y hy=>?_
 subst hy
 refine Ok.bind (Q:=fun o:List Rc=>o.length≤5000*(i+1)) ?_ fun o ho=>Ok.inl ⟨k - 1,by omega,i+1,wrapS (by omega),by omega,ho⟩
 refine Ok.range l (by omega) (fun j (s:Int×(List Rc×Int))=>s.2.1.length≤5000*i+j∧(s.2.2≠0→0<s.2.1.length)) (fun j x s hx hs=>?_) (fun s hs=>?_) ⟨by show out.length≤_;omega,fun h=>absurd rfl h⟩
 ·obtain ⟨col,o,last⟩:=s
  obtain ⟨hs1,hs2⟩:=hs
  dsimp only at hs1 hs2 ⊢
  have hlt:=lt_len hx
  refine Ok.yes (by omega) (Ok.bind (Ok.idxE hx) fun y hy=>?_)
  subst hy
  refine Ok.bind (Q:=fun q:List Rc×Gl=>q.2=x∧q.1.length≤5000*i+(j+1)∧(x.2.2.2.1≠0→0<q.1.length)) ?_ fun q hq=>?_
  ·refine Ok.bind (Q:=fun q:Bool×(List Rc×Gl)=>q.2=(o,x)∧(q.1=true→x.2.2.2.1≠0∧x.2.2.2.1=last)) (Ok.ifs (fun h=>Ok.some ⟨rfl,fun h'=>⟨h,of_decide_eq_true h'⟩⟩) fun _=>Ok.some ⟨rfl,fun h=>(by cases h)⟩) fun q hq=>?_
   obtain ⟨c,q⟩:=q
   obtain ⟨rfl,hc⟩:=hq
   dsimp only
   refine Ok.cond (fun h=>?_) fun _=>Ok.ifs (fun _=>?_) fun h0=>Ok.some ⟨rfl,by show o.length≤_;omega,fun h=>absurd h h0⟩
   ·obtain ⟨hc1,hc2⟩:=hc h
    have hpos:=hs2 (by rw [← hc2];exact hc1)
    have e1:IntKind.wrap .i64 (((o.length:Nat):Int) - 1)=o.length - 1:=wrap64 (by omega) (by omega)
    refine Ok.bind (Ok.chk (Q:=fun j=>j<o.length) (by rw [e1];omega) (by rw [e1];omega) (by rw [e1];omega)) fun j1 hj1=>Ok.bind (Ok.nth (Q:=fun _=>True) hj1 trivial) fun _ _=>?_
    refine Ok.bind (Ok.chk (Q:=fun j=>j<o.length) (by rw [e1];omega) (by rw [e1];omega) (by rw [e1];omega)) fun j2 hj2=>Ok.bind (Ok.nth (Q:=fun _=>True) hj2 trivial) fun _ _=>Ok.some ⟨rfl,?_,fun _=>?_⟩
    ·show (List.set _ _ _).length≤_
     rw [List.length_set];omega
    ·show 0<(List.set _ _ _).length
     rw [List.length_set];exact hpos
   ·refine Ok.bind (Ok.appE (by simp only [List.length_cons,List.length_nil];omega)) fun o2 ho2=>Ok.some ⟨rfl,?_,fun _=>?_⟩
    ·show o2.length≤_
     rw [ho2,List.length_append];simp only [List.length_cons,List.length_nil];omega
    ·show 0<o2.length
     rw [ho2,List.length_append];simp only [List.length_cons,List.length_nil];omega
  ·obtain ⟨o2,q⟩:=q
   obtain ⟨rfl,hq1,hq2⟩:=hq
   exact Ok.inl ⟨wrapS (by omega),hq1,hq2⟩
 ·have hs1:=hs.1
  exact Ok.no (by show ¬ ((l.length:Int)<_);omega) (Ok.inr (by show s.2.1.length≤_;omega))
def PC (t:List UInt8) (c:Cel):Prop:=1≤c.2.2.1∧c.2.2.1≤2∧c.1≠[]∧((∀ x∈chS t t.length 0,okC x=true)→c.1≠[9]∧c.1≠[10])
theorem wd_range (r:Int):0≤wd r∧wd r≤2:=by
 unfold wd
 split
 ·omega
 ·split<;>omega
theorem piece_fact {t:List UInt8} {q:Nat} (hq:q<t.length):piece t (chr_ t q)≠[]∧(okC (chr_ t q)=true→piece t (chr_ t q)≠[9]∧piece t (chr_ t q)≠[10]):=by
 have hw:=Lib.decodeL_width (t.drop q)
 have hp:piece t (chr_ t q)=(t.drop q).take (Lib.decodeL (t.drop q)).2:=by
  unfold piece chr_
  simp
 rw [hp]
 have hd:t.drop q=t[q]::t.drop (q+1):=List.drop_eq_getElem_cons hq
 obtain ⟨w,hw2⟩: ∃ w,(Lib.decodeL (t.drop q)).2=w+1:=⟨(Lib.decodeL (t.drop q)).2 - 1,by omega⟩
 have key: ∀ b:UInt8,b=9∨b=10→okC (chr_ t q)=true→(t.drop q).take (Lib.decodeL (t.drop q)).2≠[b]:=by
  intro b hb hok he
  rw [hw2,hd,List.take_succ_cons] at he
  injection he with he1 _
  have hdec:Lib.decodeL (t.drop q)=(b.toNat,1):=by
   rw [hd,he1]
   exact Lib.decodeL_ascii b _ (by rcases hb with rfl | rfl<;>decide)
  unfold okC at hok
  rw [Bool.and_eq_true] at hok
  have h2:ctl (chr_ t q).1=false:=by simpa using hok.2
  have h1:(chr_ t q).1=(b.toNat:Int):=by
   show ((Lib.decodeL (t.drop q)).1:Int)=_
   rw [hdec]
  rw [h1] at h2
  rcases hb with rfl | rfl<;>exact absurd h2 (by decide)
 refine ⟨fun he=>?_,fun hok=>⟨key 9 (.inl rfl) hok,key 10 (.inr rfl) hok⟩⟩
 rw [hw2,hd,List.take_succ_cons] at he
 cases he
theorem cells_fact (t:List UInt8): ∀ c∈cellsS t,PC t c:=by
 have key: ∀ (l:List Chr) (acc:List Cel),(∀ x∈l,x∈chS t t.length 0)→(∀ c∈acc,PC t c)→ ∀ c∈l.foldl (addC t) acc,PC t c:=by
  intro l
  induction l with
  | nil=>intro acc _ h;exact h
  | cons x r ih=>
   intro acc hx hacc
   rw [List.foldl_cons]
   refine ih _ (fun y hy=>hx y (List.mem_cons_of_mem _ hy)) fun c hc=>?_
   have hxm:=hx x List.mem_cons_self
   obtain ⟨i,hi,hie⟩:=List.getElem_of_mem hxm
   obtain ⟨q,hq,hql⟩:=ch_mem (l:=t) (i:=i) (c:=x) (by rw [List.getElem?_eq_getElem hi,hie])
   have hpf:=piece_fact hql
   rw [← hq] at hpf
   unfold addC at hc
   split at hc
   ·rename_i h0
    have hlt:acc.length - 1<acc.length:=by omega
    rcases List.mem_or_eq_of_mem_set hc with hc | hc
    ·exact hacc c hc
    ·rw [hc,getD_at hlt]
     obtain ⟨h1,h2,h3,_⟩:=hacc _ (List.getElem_mem hlt)
     have hl: ∀ b:UInt8,acc[acc.length - 1].1++piece t x≠[b]:=fun b he=>by
      have hlen:=congrArg List.length he
      rw [List.length_append] at hlen
      have h4:=List.length_pos_iff.2 h3
      have h5:=List.length_pos_iff.2 hpf.1
      simp only [List.length_cons,List.length_nil] at hlen
      omega
     exact ⟨h1,h2,fun he=>h3 (List.append_eq_nil_iff.1 he).1,fun _=>⟨hl 9,hl 10⟩⟩
   ·rcases List.mem_append.1 hc with hc | hc
    ·exact hacc c hc
    ·rw [List.mem_singleton.1 hc]
     have hr:=wd_range x.1
     exact ⟨by dsimp only;omega,by dsimp only;omega,hpf.1,fun h=>hpf.2 (h x hxm)⟩
 exact key _ [] (fun _ h=>h) (by simp)
structure GI (i:Nat) (tt:Int) (v:Vw):Prop where
 nl:v.1.1.length≤2000
 ll: ∀ x∈v.1.1,LW 200 x
 fl:(v.2.1.length:Int)≤tt+i
 fg: ∀ g∈v.2.1,kindV g=3→GW g∧g.1≠[]
 lk:v.2.2.2.length≤i
theorem tells_inv {ls:List (List Gl)} (h: ∀ x∈ls,LW 200 x): ∀ (p:List (List Gl)×Bool),p.1.length≤2000→(∀ x∈p.1,LW 200 x)→(ls.foldl tellS p).1.length≤2000∧ ∀ x∈(ls.foldl tellS p).1,LW 200 x:=by
 induction ls with
 | nil=>intro p h1 h2;exact ⟨h1,h2⟩
 | cons a r ih=>
  intro p h1 h2
  rw [List.foldl_cons]
  refine ih (fun x hx=>h x (List.mem_cons_of_mem _ hx)) _ (tellS_len p a h1) fun x hx=>?_
  unfold tellS at hx
  split at hx
  ·exact h2 x hx
  ·rcases List.mem_append.1 hx with hx | hx
   ·exact h2 x hx
   ·rw [List.mem_singleton.1 hx];exact h a List.mem_cons_self
theorem GI.step {i:Nat} {tt wd last:Int} {ks:List Int} {o:Opr} {v v':Vw} (h:GI i tt v) (htt:tt≤1000000) (hi:i≤1000000) (he:EffP wd ks last o v v'):GI (i+1) (tt+o.2.2.1.length) v':=by
 have hfl:=h.fl
 have hlk:=h.lk
 rcases he with ⟨_,h1,h2⟩ | ⟨_,lk,rfl⟩ | ⟨_,lk,b,hb,rfl⟩ | ⟨_,rfl⟩ | ⟨_,t,rfl⟩ | ⟨_,rfl⟩ | ⟨_,ls,⟨r,hr,hrl⟩,h1,h2⟩
 ·refine { nl:=?_,ll:=?_,fl:=by rw [h2];simp only [List.length_nil];omega,fg:=by rw [h2];simp,lk:=by rw [h2];show v.2.2.2.length≤_;omega }
  ·rcases h1 with h1 | ⟨_,h1⟩
   ·rw [h1];exact h.nl
   ·rw [h1];exact tellS_len _ _ h.nl
  ·rcases h1 with h1 | ⟨_,h1⟩
   ·rw [h1];exact h.ll
   ·rw [h1];exact (tells_inv (ls:=[[]]) (by intro x hx;rw [List.mem_singleton.1 hx];exact LW.nil (by omega)) _ h.nl h.ll).2
 ·refine { nl:=h.nl,ll:=h.ll,fl:=?_,fg:=fun g hg=>?_,lk:=by show v.2.2.2.length≤_;omega }
  ·have:=cells_len o.2.2.1
   rw [List.length_append,List.length_map]
   omega
  ·rcases List.mem_append.1 hg with hg | hg
   ·exact h.fg g hg
   ·obtain ⟨c,hc,rfl⟩:=List.mem_map.1 hg
    obtain ⟨h1,h2,h3,_⟩:=cells_fact _ c hc
    exact fun _=>⟨⟨h1,h2⟩,h3⟩
 ·refine { nl:=h.nl,ll:=h.ll,fl:=by rw [List.length_append];simp only [List.length_cons,List.length_nil];omega,fg:=fun g hg=>?_,lk:=by show v.2.2.2.length≤_;omega }
  rcases List.mem_append.1 hg with hg | hg
  ·exact h.fg g hg
  ·rw [List.mem_singleton.1 hg]
   exact fun _=>⟨⟨Int.le_refl _,by show (1:Int)≤2;omega⟩,by simp⟩
 ·exact ⟨h.nl,h.ll,by omega,h.fg,by omega⟩
 ·exact ⟨h.nl,h.ll,by show (v.2.1.length:Int)≤_;omega,h.fg,by show (v.2.2.2++[t]).length≤_;rw [List.length_append];simp only [List.length_cons,List.length_nil];omega⟩
 ·exact ⟨h.nl,h.ll,by show (v.2.1.length:Int)≤_;omega,h.fg,by show v.2.2.2.length≤_;omega⟩
 ·obtain ⟨r',hr',hq⟩:=fill_ok (l:=v.2.1) (w:=wd) (by omega)
  rw [hr] at hr'
  injection hr' with hr'
  subst hr'
  have hls: ∀ x∈ls,LW 200 x:=fun x hx=>by
   rw [← hrl] at hx
   obtain ⟨q1,_,q3⟩:=hq.2 x hx
   exact q1.mono q3
  have hti:=tells_inv hls v.1 h.nl h.ll
  refine { nl:=by rw [h1];exact hti.1,ll:=by rw [h1];exact hti.2,fl:=by rw [h2];omega,fg:=by rw [h2];exact h.fg,lk:=by rw [h2];omega }
theorem layout_flat (C:Nat→Vw→Prop) {sheet:List Sty} {l:List Opr} {topics wd:Int} (hl:l.length≤3000) (hf: ∀ o∈l,o.1<10) (hT: ∀ o∈l,o.2.2.1.length≤140737488355328)
  (h0:C 0 (([],false),([],(0,[])))) (hs:10≤wd∧wd≤200→VW sheet.length topics l→totT l≤16384→ ∀ i o v v',l[i]? =some o→C i v→GI i (totT (l.take i)) v→EffP wd (kst l i) (lastO l i) o v v'→C (i+1) v'):
  Ok (layout_Layout sheet l topics wd) fun r=>((10≤wd∧wd≤200∧sheet=[]∧VW sheet.length topics l∧totT l≤16384∧topics≤1000)→r.2=0)∧
   (r.2=0→VW sheet.length topics l∧totT l≤16384∧(10≤wd∧wd≤200)∧ ∃ v,C l.length v∧GI l.length (totT l) v∧r.1.1=v.1.1∧r.1.2.2.2.1=v.1.2∧r.1.2.2.1=v.2.2.2):=by
 unfold layout_Layout
 refine Ok.bind (Q:=fun q=>(q.1=false→10≤wd∧wd≤200)∧(q.1=true→ ¬ (10≤wd∧wd≤200))) ?_ fun q hq=>?_
 ·cases h1:decide (wd<10) with
  | true=>
   have h1:=of_decide_eq_true h1
   exact Ok.some ⟨fun h=>(by cases h),fun _=>by omega⟩
  | false=>
   have h1:=of_decide_eq_false h1
   exact Ok.some ⟨fun h=>by have:=of_decide_eq_false h;omega,fun h=>by have:=of_decide_eq_true h;omega⟩
 refine Ok.cond (fun hb=>Ok.some ⟨fun h=>absurd ⟨h.1,h.2.1⟩ (hq.2 hb),fun h=>(by cases h)⟩) fun hb=>?_
 have hw:=hq.1 hb
 obtain ⟨sc,hsc,hsq⟩:=scheck_ok sheet
 rw [hsc,Option.bind_some]
 refine Ok.ifs (fun hne=>Ok.some ⟨fun h=>?_,fun h=>absurd h hne⟩) fun h0s=>?_
 ·exfalso
  have h3:=h.2.2.1
  subst h3
  have:=styles0
  rw [hsc] at this
  injection this with this
  exact hne (by rw [this])
 have hs64:=(hsq (by omega)).1
 obtain ⟨ic,hic,hiq⟩:=check_flat (ns:=sheet.length) (nt:=topics) hl hf hT
 rw [hic,Option.bind_some]
 refine Ok.ifs (fun hne=>Ok.some ⟨fun h=>absurd (hiq.2 h.2.2.2.1 h.2.2.2.2.1) hne,fun h=>absurd h hne⟩) fun h0i=>?_
 obtain ⟨hV,htot⟩:=hiq.1 (by omega)
 refine Ok.ifs (fun htp=>Ok.some ⟨fun h=>absurd h.2.2.2.2.2 (by omega),fun h=>(by cases h)⟩) fun _=>?_
 refine Ok.bind (Q:=fun r=> ∃ ch:List Chg,ch.length=sheet.length∧SI ch wd [] r.1∧vw r.1=(([],false),([],(0,[])))) ?_ fun r8 hr8=>?_
 ·refine Ok.range sheet (by omega) (fun i r=> ∃ ch:List Chg,ch.length=i∧SI ch wd [] r.1∧vw r.1=(([],false),([],(0,[])))) (fun i x r hx hr=>?_) (fun r hr=>?_) ⟨[],rfl,⟨rfl,rfl,rfl,rfl,rfl,rfl,fun i k h=>(by simp at h), .inl rfl⟩,rfl⟩
  ·obtain ⟨ch,hch,hSI,hv⟩:=hr
   have hlt:=lt_len hx
   have hcc:=hSI.ch
   refine Ok.yes (by show (i:Int)<_;omega) (Ok.bind (Ok.idxE hx) fun y hy=>Ok.bind (sWhole_ok sheet hs64 _) fun c _=>?_)
   refine Ok.bind (Ok.appE (by rw [hcc];simp only [List.length_cons,List.length_nil];omega)) fun ls hls=>Ok.inl ⟨wrapS (by omega),ls,?_,⟨hSI.mr,hSI.mn,rfl,hSI.wd,hSI.mg,hSI.tb,hSI.ln,hSI.fl⟩,hv⟩
   rw [hls,hcc,List.length_append,hch];rfl
  ·exact Ok.no (by show ¬ ((sheet.length:Int)<_);omega) (Ok.inr hr)
 obtain ⟨ch,hch,hSI,hv⟩:=hr8
 refine Ok.bind (Q:=fun r:xT67×Sx=>C l.length (vw r.2)∧GI l.length (totT l) (vw r.2)) ?_ fun r12 hr12=>?_
 ·refine Ok.range l (by omega) (fun i (z:Int×(Sx×xT67))=>z.1=lastO l i∧SI ch wd (kst l i) z.2.1∧C i (vw z.2.1)∧GI i (totT (l.take i)) (vw z.2.1)) (fun i o z ho hz=>?_) (fun z hz=>?_) ⟨rfl,hSI,by rw [hv];exact h0,by rw [hv];exact ⟨by simp,by simp,by simp [totT],by simp,by simp⟩⟩
  ·obtain ⟨hz0,hz1,hz2,hz3⟩:=hz
   have hlt:=lt_len ho
   have hlo:lastO l (i+1)=o.1:=by show (match l[i]? with | some o=>_ | none=>_)=_;rw [ho]
   refine Ok.yes (by show (i:Int)<_;omega) (Ok.bind (Ok.idxE ho) fun y hy=>?_)
   subst hy
   obtain ⟨hF,hk⟩:=hV.1 i o ho
   rw [← hch] at hF
   have ht1:=totT_le (l:=l) i
   have hfl:=hz3.fl
   have hfl:((sFlow z.2.1).length:Int)≤totT (l.take i)+i:=hfl
   have hlk:=hz3.lk
   have hlk:(sLinks z.2.1).length≤i:=hlk
   rw [hz0]
   refine Ok.bind (do_ok hz1 (last:=lastO l i) hF hk ⟨by omega,hw.2⟩ (by have:=text_le (mem_at ho);omega) (by omega) hz3.fg hz3.nl (by omega)) fun s' hs'=>Ok.inl ⟨wrapS (by omega),hlo.symm,hs'.1,hs hw hV htot i o _ _ ho hz2 hz3 hs'.2,?_⟩
   rw [totT_take ho]
   exact hz3.step (by omega) (by omega) hs'.2
  ·rw [List.take_length] at hz
   exact Ok.no (by show ¬ ((l.length:Int)<_);omega) (Ok.inr hz.2.2)
 ·obtain ⟨hC,hG⟩:=hr12
  have hLn:LnO (sL r12.2):=⟨hG.nl,fun x hx=>by have:=(hG.ll x hx).len;omega⟩
  refine Ok.bind (rects_ok (sL r12.2) hLn) fun rr _=>Ok.some ⟨fun _=>rfl,fun _=>⟨hV,htot,hw,vw r12.2,hC,hG,rfl,rfl,rfl⟩⟩
end Go.Fn
/-
  From a function's entry to a row's statement: the arguments are opened, nothing old has turned, so all reads as before.
-/
namespace Go.Lf
open Go Go.Eng Go.RowKit Go.ChangeShapes Go.WideShapes Go.ChangeMaps Go.ChangeAt
section
variable {H:Type} {enc:TypeId×Value→H} {P:Program}
def allRead (P:Program) (ts:List TypeId):Bool:=ts.all fun t=>P.readableRec t && decide (t<P.types.size)
theorem trodAll_stay (hl:laidOutB P=true) {W W':World} (hb:Below W.heap.size W W'): ∀ (ts:List TypeId) (vs:List Value) (ds:List (DataW H)) (ps:List MemPlace),allRead P ts=true→
  DataW.TrodAll enc P W 0 (fun _=>true) true ts vs ds ps→(∀ x∈ps,x.block<W.heap.size)→DataW.TrodAll enc P W' 0 (fun b=>decide (b<W.heap.size)) true ts vs ds ps
 | [],[],[],_,_,h,_=>h
 | [],_::_,_,_,_,h,_=>h.elim
 | [],[],_::_,_,_,h,_=>h.elim
 | _::_,[],_,_,_,h,_=>h.elim
 | _::_,_::_,[],_,_,h,_=>h.elim
 | t::ts,v::vs,d::ds,ps,hr,h,hlt=>by
  obtain ⟨p,q,h1,h2,rfl⟩:=h
  simp only [allRead,List.all_cons,Bool.and_eq_true,decide_eq_true_eq] at hr
  exact ⟨p,q,Below.trod hl hr.1.1 hr.1.2 h1 hb (fun x hx=>hlt x (List.mem_append_left _ hx)),trodAll_stay hl hb ts vs ds q hr.2 h2 (fun x hx=>hlt x (List.mem_append_right _ hx)),rfl⟩
theorem law_post {f:Func} {s:ChangeSpec} {W W':World} {args:Array Value} {ds gs:List (DataW H)} {before:List MemPlace} {tb:TypeId} (hl:laidOutB P=true) (hr:allRead P f.params.toList=true) (hv:s.vars=[])
  (hres:f.resultTypes= #[tb]) (htb:P.underlying tb=some .bool) (hW:DataW.Whole enc P f.params.toList s.vars false W args.toList ds gs before)
  (hs:s.fn H (ds++gs)={ results:=[.lit (.bool true)],args:=ds,vars:=[] }) (hb:Below W.heap.size W W'):s.post enc P f false true false false W args (.bool true) W':=by
 have hlt: ∀ p∈before,p.block<W.heap.size:=fun p hp=>hW.lt p hp
 have hW0:=hW
 obtain ⟨p,q,hA,hV,hps,_,_⟩:=hW
 rw [hv] at hV
 obtain ⟨rfl,rfl⟩:=trodVars_none hV
 refine ⟨ds,[],before,[],p,[],hW0,?_,?_,?_,hb.frame _,fun h=>by cases h⟩
 ·rw [hs,hres]
  exact trodAll_mk1 (shut_bool htb true)
 ·rw [hs]
  exact trodAll_stay hl hb _ _ _ _ hr hA (fun x hx=>hlt x (by rw [hps];exact List.mem_append_left _ hx))
 ·rw [hs,hv]
  rfl
end
def start (W:World):Cx:=⟨W,[],fun _=>none⟩
def Lasts (W:World) (I:World→Prop):Prop:= ∀ w',Below W.heap.size W w'→I w'
theorem Lasts.and {W:World} {I J:World→Prop} (h:Lasts W I) (k:Lasts W J):Lasts W (fun w=>I w∧J w):=fun w' hb=>⟨h w' hb,k w' hb⟩
theorem Lasts.of {W:World} {p:Prop} (h:p):Lasts W (fun _=>p):=fun _ _=>h
theorem hb_start {W:World} {I:World→Prop} (h:Lasts W I):Hb (start W) (start W).w0 [] I:=
 ⟨⟨rfl,rfl,rfl,Nat.le_refl _,fun _ _ _=>rfl,fun c hc=>absurd hc (by simp [start]),fun c hc=>absurd hc (by simp [start]),fun c hc=>absurd hc (by simp),fun c hc=>absurd hc (by simp),List.Pairwise.nil,fun k m hk=>by cases hk⟩,
  fun w' hx=>h w' ⟨hx.os,hx.tape,hx.output,hx.size,fun k hk=>hx.block k hk rfl (fun c hc=>absurd hc (by simp))⟩⟩
theorem cell_lt {W:World} {a:Addr} {v:Value} (h:W.cell? a=some v):a.block<W.heap.size:=by
 rcases Nat.lt_or_ge a.block W.heap.size with h1 | h1
 ·exact h1
 ·simp [World.cell?,Array.getElem?_eq_none h1] at h
def phiOf (W:World):Phi:=⟨fun a=>W.cell? a,fun _=>False⟩
theorem lasts_agree (W:World):Lasts W (Agree (phiOf W)):=fun _ hb=>⟨fun _ _ h=>(hb.cell (cell_lt h)).trans h,fun _ h=>h.elim⟩
theorem lasts_var {P:Program} {W:World} {name:String} {cs:Array Value} (h:W.var? P name=some cs):Lasts W (fun w=>w.var? P name=some cs):=fun w' hb=>by
 unfold World.var? at*
 cases hg:P.globalNamed name with
 | none=>rw [hg] at h;simp at h
 | some g=>
  rw [hg] at h
  simp only [Option.bind_some] at*
  by_cases hlt:g<W.heap.size
  ·rw [hb.block g hlt];exact h
  ·rw [Array.getElem?_eq_none (by omega)] at h;simp at h
theorem law_calls {P:Program} {G:World→Prop} {f:Nat} {e:Entry} {z:prodT (e.ps.map Par.ty)} {W:World} {vals:List Value} (he:EntryOk P G f e) (hr:e.rs=[.bool]) (_ho:outs e.ps=[]) {r:prodT (e.rs++outs e.ps)} (hz:e.f z=some r) (ht:unProd (e.rs++outs e.ps) r=[⟨.bool,true⟩])
  (ha:ArgsR (phiOf W) e.ps z vals [] []) (hG:Lasts W G):Calls P f vals.toArray W fun e W'=>e= .returned (.bool true)∧Below W.heap.size W W':=by
 refine Calls.mono (he.ok z r hz (start W) (phiOf W) vals [] [] ha (hb_start (hG.and (lasts_agree W)))) ?_
 rintro x w' ⟨v,φ',h1,h2,rfl,_,hb,⟨vs,hv,rfl⟩,_⟩
 rw [ht,hr] at hv
 refine ⟨?_,hb.hp.os,hb.hp.tape,hb.hp.output,hb.hp.size,fun k hk=>hb.hp.keep k hk (by simp [start,free])⟩
 cases hv with
 | cons a1 a2 a3=>
  cases a3
  obtain ⟨rfl,_⟩:=a2
  rfl
section
variable {H:Type} (enc:TypeId×Value→H) (P:Program) (W:World)
def Light (P:Program) (t:TypeId) (d:DataW H):Prop:= ∀ x∈d.weights P t,x≤reachBytes
end
def rnd (o a:Nat):Nat:=(o+a - 1) / a*a
def Ty.aln:Ty→Nat
 | .int k=>k.bits / 8
 | .bool=>1
 | .unit=>1
 | .st t=>t.aln
 | .pr a b=>max a.aln b.aln
 | _=>8
mutual
def Ty.byt:Ty→Nat
 | .int k=>k.bits / 8
 | .bool=>1
 | .str=>16
 | .sl _=>24
 | .rw _ _=>24
 | .mr _ _=>24
 | .it=>8
 | .itd=>8
 | .dead _ _=>24
 | .eb _ _=>16
 | .op _=>8
 | .bx _ _=>8
 | .on _=>8
 | .fl _=>8
 | .bo _ _=>8
 | .bn=>8
 | .tr=>16
 | .ml _ _ _=>24
 | .ptr _=>8
 | .st t=>rnd (t.end_ 0) t.aln
 | _=>0
def Ty.end_:Ty→Nat→Nat
 | .pr a b,o=>b.end_ (rnd o a.aln+a.byt)
 | _,o=>o
end
def Wf:(t:Ty)→t.den→Prop
 | .int k,x=>k.min≤x∧x≤k.max
 | .str,x=>List.length x≤140737488351232
 | .sl t,l=>List.length l*t.byt≤140737488351232∧ ∀ x∈(l:List t.den),Wf t x
 | .st t,x=>Wf t x
 | .pr a b,x=>Wf a x.1∧Wf b x.2
 | _,_=>True
def Sz:(t:Ty)→t.den→Nat
 | .str,x=>List.length x
 | .sl t,l=>((l:List t.den).map (Sz t)).sum+List.length l
 | .st t,x=>Sz t x
 | .pr a b,x=>Sz a x.1+Sz b x.2
 | _,_=>0
mutual
def bulk {H:Type}:DataW H→Nat
 | .lit (.string b)=>b.length
 | .slice es _=>bulkAll es+es.length
 | .agg ps=>bulkAll ps
 | _=>0
def bulkAll {H:Type}:List (DataW H)→Nat
 | []=>0
 | d::r=>bulk d+bulkAll r
end
theorem bulkAll_map {H:Type}: ∀ l:List (DataW H),bulkAll l=(l.map bulk).sum
 | []=>rfl
 | d::r=>by
  rw [bulkAll,bulkAll_map r];rfl
theorem sum_le2 {α β:Type} {f:α→Nat} {g:β→Nat}: ∀ {l:List α} {m:List β},l.length=m.length→(∀ (i:Nat) x y,l[i]? =some x→m[i]? =some y→f x≤g y)→(l.map f).sum≤(m.map g).sum
 | [],[],_,_=>Nat.le_refl _
 | [],_::_,h,_=>by simp at h
 | _::_,[],h,_=>by simp at h
 | x::l,y::m,h,hR=>by
  have h1:=hR 0 x y rfl rfl
  have h2:=sum_le2 (l:=l) (m:=m) (by simpa using h) fun i a b ha hb=>hR (i+1) a b (by simpa using ha) (by simpa using hb)
  simp only [List.map_cons,List.sum_cons]
  omega
def opB (P:Program):Ty→TypeId⊕(List Field×Nat)→Bool
 | .int k, .inl t=>match P.underlying t with | some (.int k')=>decide (k=k') | _=>false
 | .bool, .inl t=>match P.underlying t with | some .bool=>true | _=>false
 | .str, .inl t=>match P.underlying t with | some .string=>true | _=>false
 | .sl a, .inl t=>match P.underlying t with | some (.slice e)=>Nat.beq (P.cellsOf e) a.size && Nat.blt 0 a.size && Nat.beq (P.bytesOf e) a.byt && opB P a (.inl e) | _=>false
 | .st c, .inl t=>match P.underlying t with | some (.struct fs)=>Nat.beq (P.cellsOf t) c.size && opB P c (.inr (fs.toList,0)) | _=>false
 | .pr a b, .inr (f::fs,o)=>Nat.beq f.offset o && Nat.beq (P.cellsOf f.type) a.size && opB P a (.inl f.type) && opB P b (.inr (fs,o+a.size))
 | .unit, .inr ([],_)=>true
 | _,_=>false
section
variable {H:Type} (enc:TypeId×Value→H) (P:Program) (W:World)
def OpnT (t:TypeId) (a:Ty):Prop:=
 ∀ fuel cs d ps,DataW.trod enc P W 0 (fun _=>true) true fuel t cs=some (d,ps)→Light P t d→ ∃ x:a.den,Rp (phiOf W) a x cs []∧Wf a x∧Sz a x≤bulk d
def OpnF (size o:Nat) (fs:List Field) (a:Ty):Prop:=
 ∀ (n:Nat) (cs:List Value) (xs:List (DataW H×List MemPlace)),cs.length=size→xs.length=fs.length→
  (∀ (i:Nat) (f:Field),fs[i]? =some f→DataW.trod enc P W 0 (fun _=>true) true n f.type ((cs.drop f.offset).take (P.cellsOf f.type))=xs[i]?)→
  (∀ (i:Nat) (f:Field) y,fs[i]? =some f→xs[i]? =some y→Light P f.type y.1)→o+a.size=size→ ∃ x:a.den,Rp (phiOf W) a x (cs.drop o) []∧Wf a x∧Sz a x≤bulkAll (xs.map (·.1))
end
section
variable {H:Type} {enc:TypeId×Value→H} {P:Program} {W:World} {t e:TypeId}
theorem light_slice {es sp:List (DataW H)} (ht:P.underlying t=some (.slice e)) (hl:Light P t (.slice es sp)):es.length*P.bytesOf e≤140737488351232∧ ∀ d∈es,Light P e d:=by
 unfold Light at hl
 simp only [DataW.weights,ht] at hl
 have h7:reachBytes=140737488351232:=by decide
 constructor
 ·have h1:=hl _ (List.mem_cons_self ..)
  have h2:es.length*P.bytesOf e≤(es.length+sp.length)*P.bytesOf e:=Nat.mul_le_mul_right _ (by omega)
  omega
 ·intro d hd x hx
  refine hl x (List.mem_cons_of_mem _ (List.mem_append_left _ ?_))
  clear hl
  induction es with
  | nil=>cases hd
  | cons a r ih=>
   simp only [DataW.weightsAll]
   rcases List.mem_cons.1 hd with rfl | h
   ·exact List.mem_append_left _ hx
   ·exact List.mem_append_right _ (ih h)
theorem light_agg {fs:Array Field} {ds:List (DataW H)} (ht:P.underlying t=some (.struct fs)) (hl:Light P t (.agg ds)): ∀ (i:Nat) (f:Field) y,fs.toList[i]? =some f→ds[i]? =some y→Light P f.type y:=by
 unfold Light at hl
 simp only [DataW.weights,ht] at hl
 have key: ∀ (l:List Field) (ds:List (DataW H)),(∀ x∈DataW.weightsEach P (l.map (·.type)) ds,x≤reachBytes)→ ∀ (i:Nat) (f:Field) y,l[i]? =some f→ds[i]? =some y→Light P f.type y:=by
  intro l
  induction l with
  | nil=>intro ds _ i f y h;simp at h
  | cons g r ih=>
   intro ds hl i f y hf hy
   cases ds with
   | nil=>simp at hy
   | cons d q=>
    simp only [List.map_cons,DataW.weightsEach] at hl
    cases i with
    | zero=>
     simp at hf hy
     subst hf hy
     exact fun x hx=>hl x (List.mem_append_left _ hx)
    | succ i=>exact ih q (fun x hx=>hl x (List.mem_append_right _ hx)) i f y (by simpa using hf) (by simpa using hy)
 exact key fs.toList ds hl
theorem list_choose {α:Type} {p:Nat→α→Prop}: ∀ n,(∀ i,i<n→ ∃ x,p i x)→ ∃ l:List α,l.length=n∧ ∀ i x,l[i]? =some x→p i x
 | 0,_=>⟨[],rfl,fun i x h=>by simp at h⟩
 | n+1,h=>by
  obtain ⟨l,h1,h2⟩:=list_choose n (fun i hi=>h i (by omega))
  obtain ⟨x,hx⟩:=h n (by omega)
  refine ⟨l++[x],by simp [h1],fun i y hy=>?_⟩
  by_cases hi:i<n
  ·rw [List.getElem?_append_left (by omega)] at hy;exact h2 i y hy
  ·rw [List.getElem?_append_right (by omega)] at hy
   have h3:i=n:=by
    have:=(List.getElem?_eq_some_iff.1 hy).1
    simp at this;omega
   subst h3
   rw [h1,Nat.sub_self] at hy
   simp at hy
   subst hy;exact hx
theorem all2_of {α β:Type} {R:α→β→Prop}: ∀ {l:List α} {m:List β},l.length=m.length→(∀ (i:Nat) x y,l[i]? =some x→m[i]? =some y→R x y)→All2 R l m
 | [],[],_,_=> .nil
 | [],_::_,h,_=>by simp at h
 | _::_,[],h,_=>by simp at h
 | x::l,y::m,h,hR=> .cons (hR 0 x y rfl rfl) (all2_of (by simpa using h) fun i a b ha hb=>hR (i+1) a b (by simpa using ha) (by simpa using hb))
theorem flat_at {s:Nat} (hs:0<s): ∀ (l:List (List Value)),(∀ c∈l,c.length=s)→ ∀ (j:Nat) (v:Value),l.flatten[j]? =some v→ ∃ i k c,j=i*s+k∧l[i]? =some c∧c[k]? =some v
 | [],_,j,v,h=>by simp at h
 | d::r,hl,j,v,h=>by
  have h1:=hl d List.mem_cons_self
  rw [List.flatten_cons] at h
  by_cases hj:j<s
  ·rw [List.getElem?_append_left (by omega)] at h
   exact ⟨0,j,d,by omega,rfl,h⟩
  ·rw [List.getElem?_append_right (by omega),h1] at h
   obtain ⟨i,k,c,e1,e2,e3⟩:=flat_at hs r (fun c hc=>hl c (List.mem_cons_of_mem _ hc)) (j - s) v h
   exact ⟨i+1,k,c,by rw [Nat.succ_mul];omega,by simpa using e2,e3⟩
theorem opn_ok: ∀ (a:Ty),(∀ t,opB P a (.inl t)=true→OpnT enc P W t a)∧(∀ fs o size,opB P a (.inr (fs,o))=true→OpnF enc P W size o fs a)
 | .int k=>by
  refine ⟨fun t h=>?_,fun fs o size h=>by cases fs<;>simp [opB] at h⟩
  ·skip
   unfold opB at h
   split at h
   ·rename_i k' hu
    have h:=of_decide_eq_true h
    subst h
    intro fuel cs d ps ht _
    obtain ⟨n,h1,h2,h3⟩:=DataW.trod_int hu ht
    exact ⟨n,⟨h1,rfl⟩,by
     have h4:k.min≤n∧n≤k.max:=by simpa [Lit.wf] using h3
     exact ⟨h4,Nat.zero_le _⟩⟩
   ·cases h
 | .bool=>by
  refine ⟨fun t h=>?_,fun fs o size h=>by cases fs<;>simp [opB] at h⟩
  ·skip
   unfold opB at h
   split at h
   ·rename_i hu
    intro fuel cs d ps ht _
    cases fuel with
    | zero=>simp [DataW.trod] at ht
    | succ n=>
     unfold DataW.trod at ht
     rw [hu] at ht
     split at ht<;>simp_all [Rp,Wf,Sz]
   ·cases h
 | .str=>by
  refine ⟨fun t h=>?_,fun fs o size h=>by cases fs<;>simp [opB] at h⟩
  ·skip
   unfold opB at h
   split at h
   ·rename_i hu
    intro fuel cs d ps ht hl
    obtain ⟨s,h1,h2,h3⟩:=DataW.trod_string hu ht
    injection h2 with h4 h5
    subst h4
    refine ⟨s.data.toList,⟨by rw [h1],rfl⟩,?_⟩
    have h6:=hl s.data.toList.length (by simp [DataW.weights])
    have h7:reachBytes=140737488351232:=by decide
    refine ⟨?_,Nat.le_refl _⟩
    show s.data.toList.length≤_
    omega
   ·cases h
 | .unit=>⟨fun t h=>by simp [opB] at h,fun fs o size h=>by
   cases fs with
   | cons f r=>simp [opB] at h
   | nil=>
    intro n cs xs hs _ _ _ hz
    have:o=cs.length:=by rw [hs];exact hz
    exact ⟨(),⟨List.drop_eq_nil_of_le (by omega),rfl⟩,trivial,Nat.zero_le _⟩⟩
 | .sl a=>by
  refine ⟨fun t h=>?_,fun fs o size h=>by cases fs<;>simp [opB] at h⟩
  ·skip
   unfold opB at h
   split at h
   case h_2=>cases h
   case h_1 e hu=>
   simp only [Bool.and_eq_true] at h
   obtain ⟨⟨⟨h1,h2⟩,h3⟩,h4⟩:=h
   have hn:=Nat.eq_of_beq_eq_true h1
   have h0:0<a.size:=by simpa [Nat.blt_eq] using h2
   have hb:=Nat.eq_of_beq_eq_true h3
   have he:=(opn_ok a).1 e h4
   intro fuel cs d ps hd hl
   rcases DataW.trod_slice hu hd with ⟨g1,g2⟩ | ⟨ad,len,cap,elems,rest,m,_,rfl,hx,_,hlc,_,hlen,hel,_,_⟩
   ·exact ⟨([]:List a.den),⟨none,0,[],g1,Nat.le_refl _, .nil,fun hn=>absurd hn (by simp),rfl⟩,by simp [Wf],Nat.zero_le _⟩
   ·injection hx with hx1 hx2
    subst hx1
    obtain ⟨hl1,hl2⟩:=light_slice hu hl
    rw [List.length_map,hlen,hb] at hl1
    have each: ∀ i,i<len→ ∃ q:a.den×List Value,Rp (phiOf W) a q.1 q.2 []∧Wf a q.1∧(∀ k u,q.2[k]? =some u→W.cell? (ad.add (i*a.size+k))=some u)∧ ∀ y,elems[i]? =some y→Sz a q.1≤bulk y.1:=by
     intro i hi
     obtain ⟨y,hy⟩: ∃ y,elems[i]? =some y:=⟨_,List.getElem?_eq_getElem (by omega)⟩
     have h3:=hel i hi
     rw [hy,hn,Option.bind_eq_some_iff] at h3
     obtain ⟨cs',h4,h5⟩:=h3
     obtain ⟨y1,y2⟩:=y
     obtain ⟨x,h6,h7,h7b⟩:=he m cs' y1 y2 h5 (hl2 y1 (List.mem_map.2 ⟨(y1,y2),List.mem_of_getElem? hy,rfl⟩))
     obtain ⟨_,h8,h9⟩:=World.cells?_some h4
     refine ⟨(x,cs'),h6,h7,fun k u hu=>?_,fun y' hy'=>(by rw [hy] at hy';injection hy' with hy';rw [← hy'];exact h7b)⟩
     have hk:k<a.size:=by rw [← h6.len];exact (List.getElem?_eq_some_iff.1 hu).1
     have:=h9 k hk
     rw [hu,add_add'] at this
     exact this
    obtain ⟨l,h10,h11⟩:=list_choose len each
    have hll:(l.map (·.1)).length=len:=by rw [List.length_map,h10]
    have hall:All2 (fun x cs=>Rp (phiOf W) a x cs []) (l.map (·.1)) (l.map (·.2)):=all2_of (by simp) fun i x y hx hy=>by
     rw [List.getElem?_map] at hx hy
     cases hq:l[i]? with
     | none=>rw [hq] at hx;cases hx
     | some q=>
      rw [hq] at hx hy
      simp only [Option.map_some,Option.some.injEq] at hx hy
      subst hx hy
      exact (h11 i q hq).1
    refine ⟨l.map (·.1),⟨some ad,cap,l.map (·.2),?_,?_,hall,fun _=>⟨ad,rfl,fun j v hv=>?_⟩,rfl⟩,⟨?_,fun x hx=>?_⟩,?_⟩
    ·show [Value.slice (some ad) len cap]=[Value.slice (some ad) (l.map (·.1)).length cap]
     rw [hll]
    ·show (l.map (·.1)).length≤cap
     omega
    ·obtain ⟨i,k,c,rfl,e2,e3⟩:=flat_at h0 (l.map (·.2)) (fun c hc=>by
      obtain ⟨q,hq,rfl⟩:=List.mem_map.1 hc
      obtain ⟨i,hi⟩:=List.getElem?_of_mem hq
      exact (h11 i q hi).1.len) j v hv
     rw [List.getElem?_map] at e2
     cases hq:l[i]? with
     | none=>rw [hq] at e2;cases e2
     | some q=>
      rw [hq] at e2
      simp only [Option.map_some,Option.some.injEq] at e2
      subst e2
      exact (h11 i q hq).2.2.1 k v e3
    ·show (l.map (·.1)).length*a.byt≤_
     rw [hll];exact hl1
    ·obtain ⟨q,hq,rfl⟩:=List.mem_map.1 hx
     obtain ⟨i,hi⟩:=List.getElem?_of_mem hq
     exact (h11 i q hi).2.1
    ·show ((l.map (·.1)).map (Sz a)).sum+(l.map (·.1)).length≤bulkAll (elems.map (·.1))+(elems.map (·.1)).length
     rw [bulkAll_map,hll,List.length_map,hlen]
     refine Nat.add_le_add_right (sum_le2 (by rw [hll,List.length_map,hlen]) fun i x y hx hy=>?_) _
     rw [List.getElem?_map] at hx hy
     cases hq:l[i]? with
     | none=>rw [hq] at hx;cases hx
     | some q=>
      cases he2:elems[i]? with
      | none=>rw [he2] at hy;cases hy
      | some z=>
       rw [hq] at hx
       rw [he2] at hy
       simp only [Option.map_some,Option.some.injEq] at hx hy
       subst hx hy
       exact (h11 i q hq).2.2.2 z he2
 | .st c=>by
  refine ⟨fun t h=>?_,fun fs o size h=>by cases fs<;>simp [opB] at h⟩
  ·skip
   unfold opB at h
   split at h
   case h_2=>cases h
   case h_1 fs hu=>
   simp only [Bool.and_eq_true] at h
   have hs:=Nat.eq_of_beq_eq_true h.1
   have hF:=(opn_ok c).2 fs.toList 0 c.size h.2
   intro fuel cs d ps hd hl
   obtain ⟨xs,n,_,hx,hcl,hxl,hf⟩:=DataW.trod_struct hu hd
   injection hx with hx1 hx2
   subst hx1
   have hla:=light_agg hu hl
   obtain ⟨x,h1,h2,h3⟩:=hF n cs xs (by rw [hcl,hs]) (by simpa using hxl) (fun i f hi=>hf i f (by simpa using hi)) (fun i f y hi hy=>hla i f y.1 hi (by simp [hy])) (by simp)
   have h1:Rp (phiOf W) c x cs []:=by simpa using h1
   exact ⟨x,h1,h2,h3⟩
 | .pr a b=>⟨fun t h=>by simp [opB] at h,fun fs o size h=>by
   cases fs with
   | nil=>simp [opB] at h
   | cons f fs=>
    unfold opB at h
    simp only [Bool.and_eq_true] at h
    obtain ⟨⟨⟨h1,h2⟩,h3⟩,h4⟩:=h
    have ho:=Nat.eq_of_beq_eq_true h1
    have hm:=Nat.eq_of_beq_eq_true h2
    have ha:=(opn_ok a).1 _ h3
    have hb:=(opn_ok b).2 fs (o+a.size) size h4
    intro n cs xs hs hxl hx hl hz
    cases xs with
    | nil=>simp at hxl
    | cons y ys=>
     have h3:=hx 0 f rfl
     rw [ho,hm] at h3
     obtain ⟨y1,y2⟩:=y
     obtain ⟨x,g1,g2,g2b⟩:=ha n _ y1 y2 h3 (hl 0 f (y1,y2) rfl rfl)
     obtain ⟨z,g3,g4,g4b⟩:=hb n cs ys hs (by simpa using hxl) (fun i g hg=>by simpa using hx (i+1) g (by simpa using hg)) (fun i g y hg hy=>hl (i+1) g y (by simpa using hg) (by simpa using hy)) (by rw [← hz];simp [Ty.size];omega)
     refine ⟨(x,z),⟨_,_,[],[],?_,rfl,g1,g3⟩,⟨g2,g4⟩,Nat.add_le_add g2b g4b⟩
     rw [← List.drop_drop,List.take_append_drop]⟩
 | .it=>⟨fun t h=>by simp [opB] at h,fun fs o size h=>by cases fs<;>simp [opB] at h⟩
 | .itd=>⟨fun t h=>by simp [opB] at h,fun fs o size h=>by cases fs<;>simp [opB] at h⟩
 | .dead _ _=>⟨fun t h=>by simp [opB] at h,fun fs o size h=>by cases fs<;>simp [opB] at h⟩
 | .rw _ _=>⟨fun t h=>by simp [opB] at h,fun fs o size h=>by cases fs<;>simp [opB] at h⟩
 | .mr _ _=>⟨fun t h=>by simp [opB] at h,fun fs o size h=>by cases fs<;>simp [opB] at h⟩
 | .ptr _=>⟨fun t h=>by simp [opB] at h,fun fs o size h=>by cases fs<;>simp [opB] at h⟩
 | .eb _ _=>⟨fun t h=>by simp [opB] at h,fun fs o size h=>by cases fs<;>simp [opB] at h⟩
 | .op _=>⟨fun t h=>by simp [opB] at h,fun fs o size h=>by cases fs<;>simp [opB] at h⟩
 | .bx _ _=>⟨fun t h=>by simp [opB] at h,fun fs o size h=>by cases fs<;>simp [opB] at h⟩
 | .bo _ _=>⟨fun t h=>by simp [opB] at h,fun fs o size h=>by cases fs<;>simp [opB] at h⟩
 | .bn=>⟨fun t h=>by simp [opB] at h,fun fs o size h=>by cases fs<;>simp [opB] at h⟩
 | .tr=>⟨fun t h=>by simp [opB] at h,fun fs o size h=>by cases fs<;>simp [opB] at h⟩
 | .ml _ _ _=>⟨fun t h=>by simp [opB] at h,fun fs o size h=>by cases fs<;>simp [opB] at h⟩
 | .on _=>⟨fun t h=>by simp [opB] at h,fun fs o size h=>by cases fs<;>simp [opB] at h⟩
 | .fl _=>⟨fun t h=>by simp [opB] at h,fun fs o size h=>by cases fs<;>simp [opB] at h⟩
theorem light_arg {ts:List TypeId} {ds:List (DataW H)} {j:Nat} {t:TypeId} {d:DataW H} (hz:(DataW.weightsEach P ts ds).all (· ≤reachBytes)=true) (ht:ts[j]? =some t) (hd:ds[j]? =some d):Light P t d:=by
 intro x hx
 have h1: ∀ y∈DataW.weightsEach P ts ds,y≤reachBytes:=fun y hy=>by simpa using List.all_eq_true.1 hz y hy
 clear hz
 induction ts generalizing ds j with
 | nil=>simp at ht
 | cons a r ih=>
  cases ds with
  | nil=>simp at hd
  | cons b q=>
   simp only [DataW.weightsEach] at h1
   cases j with
   | zero=>
    simp at ht hd
    subst ht hd
    exact h1 x (List.mem_append_left _ hx)
   | succ j=>exact ih (by simpa using ht) (by simpa using hd) (fun y hy=>h1 y (List.mem_append_right _ hy))
theorem open_argB {a:Ty} {v:Value} {d:DataW H} {ps:List MemPlace} {base:Nat} (ha:opB P a (.inl t)=true) (hv:Value.okWide P W .any base t v) (h:DataW.Trod enc P W 0 (fun _=>true) true t v d ps) (hl:Light P t d):
  ∃ (x:a.den) (cs:List Value),a.top=true∧v=sv a cs∧Rp (phiOf W) a x cs []∧Wf a x∧Sz a x≤bulk d:=by
 obtain ⟨fuel,hf⟩:=h
 obtain ⟨x,h1,h2,h2b⟩:=(opn_ok (enc:=enc) (W:=W) a).1 t ha fuel _ d ps hf hl
 refine ⟨x,v.cells.toList,?_,?_,h1,h2,h2b⟩
 ·cases a<;>first | rfl | (simp [opB] at ha;done)
 ·cases a<;>first | (simp [opB] at ha;done) | skip
  all_goals unfold opB at ha
  all_goals split at ha<;>first | (cases ha;done) | skip
  all_goals rename_i hu
  ·obtain ⟨n,rfl⟩:=okWide_int hu hv;rfl
  ·obtain ⟨n,rfl⟩:=okWide_bool hu hv;rfl
  ·obtain ⟨n,rfl⟩:=okWide_string hu hv;rfl
  ·obtain ⟨A,n,c,rfl⟩:=okWide_slice hu hv;rfl
  ·obtain ⟨cs,rfl,_⟩:=okWide_struct hu hv;rfl
theorem open_arg {a:Ty} {v:Value} {d:DataW H} {ps:List MemPlace} {base:Nat} (ha:opB P a (.inl t)=true) (hv:Value.okWide P W .any base t v) (h:DataW.Trod enc P W 0 (fun _=>true) true t v d ps) (hl:Light P t d):
  ∃ (x:a.den) (cs:List Value),a.top=true∧v=sv a cs∧Rp (phiOf W) a x cs []∧Wf a x:=
 let ⟨x,cs,h1,h2,h3,h4,_⟩:=open_argB ha hv h hl
 ⟨x,cs,h1,h2,h3,h4⟩
end
end Go.Lf
/- LayoutAll, plainly: the signs of all texts are the signs of all lines, each with its link. -/
namespace Go.Fn
open Go Go.Lf
abbrev Pr:Type:=List UInt8×Int
def pr (g:Gl):Pr:=(g.1,g.2.2.2.1)
def lst (l:List Opr):Nat→Int×(List Pr×Nat)
 | 0=>(0,([],0))
 | i+1=>match l[i]? with
  | none=>lst l i
  | some o=>
   if o.1=1 then ((lst l i).1,((lst l i).2.1++((cellsS o.2.2.1).filter fun c=>decide (c.1≠[32])).map (fun c=>(c.1,(lst l i).1)),(lst l i).2.2))
   else if o.1=3∨o.1=4 then ((((lst l i).2.2+1:Nat):Int),((lst l i).2.1,(lst l i).2.2+1))
   else if o.1=5 then (if (kst l i).getLast? =some 2 then (lst l i).1 else 0,(lst l i).2)
   else lst l i
theorem lst_s {l:List Opr} {i:Nat} {o:Opr} (h:l[i]? =some o):lst l (i+1)=
   if o.1=1 then ((lst l i).1,((lst l i).2.1++((cellsS o.2.2.1).filter fun c=>decide (c.1≠[32])).map (fun c=>(c.1,(lst l i).1)),(lst l i).2.2))
   else if o.1=3∨o.1=4 then ((((lst l i).2.2+1:Nat):Int),((lst l i).2.1,(lst l i).2.2+1))
   else if o.1=5 then (if (kst l i).getLast? =some 2 then (lst l i).1 else 0,(lst l i).2)
   else lst l i:=by
 show (match l[i]? with | none=>_ | some o=>_)=_
 rw [h]
theorem nextK_cases {ks ks':List Int} {k:Int} (h:nextK ks k=some ks'):(k=8∧ks=[]∧ks'=[8])∨((k=1∨k=6∨k=7)∧ks≠[]∧ks'=ks)∨((k=2∨k=3∨k=4)∧ks≠[]∧ks.length≤16∧ks'=ks++[k])∨(k=5∧2≤ks.length∧ks'=ks.dropLast)∨(k=9∧ks.length=1∧ks'=[]):=by
 unfold nextK at h
 by_cases h8:k=8
 ·rw [if_pos h8] at h
  by_cases hn:ks=[]
  ·rw [if_pos hn] at h
   injection h with h
   exact .inl ⟨h8,hn,h.symm⟩
  ·rw [if_neg hn] at h;cases h
 rw [if_neg h8] at h
 by_cases hn:ks=[]
 ·rw [if_pos hn] at h;cases h
 rw [if_neg hn] at h
 by_cases h1:k=1∨k=6∨k=7
 ·rw [if_pos h1] at h
  injection h with h
  exact .inr (.inl ⟨h1,hn,h.symm⟩)
 rw [if_neg h1] at h
 by_cases h2:k=2
 ·rw [if_pos h2] at h
  by_cases h16:ks.length≤16
  ·rw [if_pos h16] at h
   injection h with h
   exact .inr (.inr (.inl ⟨.inl h2,hn,h16,by rw [h2];exact h.symm⟩))
  ·rw [if_neg h16] at h;cases h
 rw [if_neg h2] at h
 by_cases h3:k=3∨k=4
 ·rw [if_pos h3] at h
  by_cases h16:(∀ j∈ks,j≠3∧j≠4)∧ks.length≤16
  ·rw [if_pos h16] at h
   injection h with h
   exact .inr (.inr (.inl ⟨.inr h3,hn,h16.2,h.symm⟩))
  ·rw [if_neg h16] at h;cases h
 rw [if_neg h3] at h
 by_cases h5:k=5
 ·rw [if_pos h5] at h
  by_cases h6:2≤ks.length
  ·rw [if_pos h6] at h
   injection h with h
   exact .inr (.inr (.inr (.inl ⟨h5,h6,h.symm⟩)))
  ·rw [if_neg h6] at h;cases h
 rw [if_neg h5] at h
 by_cases h9:k=9
 ·rw [if_pos h9] at h
  by_cases h6:ks.length=1
  ·rw [if_pos h6] at h
   injection h with h
   exact .inr (.inr (.inr (.inr ⟨h9,h6,h.symm⟩)))
  ·rw [if_neg h6] at h;cases h
 rw [if_neg h9] at h;cases h
theorem tells_false: ∀ (ls:List (List Gl)) (p:List (List Gl)×Bool),(ls.foldl tellS p).2=false→p.2=false∧(ls.foldl tellS p).1=p.1++ls
 | [],p,h=>⟨h,by simp⟩
 | a::r,p,h=>by
  rw [List.foldl_cons] at h ⊢
  obtain ⟨h1,h2⟩:=tells_false r _ h
  unfold tellS at h1
  split at h1
  ·cases h1
  ·rename_i hc
   refine ⟨h1,?_⟩
   rw [h2]
   unfold tellS
   rw [if_neg hc,List.append_assoc];rfl
theorem s3_app (l m:List Gl):s3 (l++m)=s3 l++s3 m:=List.filter_append ..
theorem s3_cells {t:List UInt8} (hok: ∀ c∈chS t t.length 0,okC c=true) (lk:Lok) (n:Int):(s3 ((cellsS t).map (glyC lk n))).map pr=((cellsS t).filter fun c=>decide (c.1≠[32])).map fun c=>(c.1,n):=by
 have hf:=cells_fact t
 unfold s3
 rw [List.filter_map,List.map_map]
 have e:(cellsS t).filter ((fun g=>decide (kindV g=3)) ∘ glyC lk n)=(cellsS t).filter fun c=>decide (c.1≠[32]):=by
  refine List.filter_congr fun c hc=>?_
  obtain ⟨_,_,_,h4⟩:=hf c hc
  obtain ⟨h9,h10⟩:=h4 hok
  show decide (kindV (glyC lk n c)=3)=_
  refine decide_eq_decide.2 ?_
  unfold kindV
  show (if c.1=[32] then (0:Int) else if c.1=[9] then 1 else if c.1=[10] then 2 else 3)=3↔_
  by_cases h32:c.1=[32]
  ·rw [if_pos h32];simp [h32]
  ·rw [if_neg h32,if_neg h9,if_neg h10];simp [h32]
 rw [e]
 rfl
def CA (l:List Opr) (i:Nat) (v:Vw):Prop:=v.2.2.1=(lst l i).1∧v.2.2.2.length=(lst l i).2.2∧(v.1.2=false→(sg v.1.1.flatten).map pr++(if kst l i=[] then [] else (s3 v.2.1).map pr)=(lst l i).2.1)
theorem CA.step {ns nt wd:Int} {l:List Opr} {i:Nat} {o:Opr} {v v':Vw} (hw:10≤wd∧wd≤200) (hV:VW ns nt l) (ho:l[i]? =some o) (hT:o.2.2.1.length≤1048576) (hi:i≤3000) (htt:totT (l.take i)≤1000000) (h:CA l i v) (hG:GI i (totT (l.take i)) v) (hE:EffP wd (kst l i) (lastO l i) o v v'):CA l (i+1) v':=by
 obtain ⟨hF,hk⟩:=hV.1 i o ho
 obtain ⟨h1,h2,h3⟩:=h
 have hls:=lst_s ho
 rcases nextK_cases hk with ⟨k8,e0,e1⟩ | ⟨k1,e0,e1⟩ | ⟨k2,e0,_,e1⟩ | ⟨k5,e0,e1⟩ | ⟨k9,e0,e1⟩
 ·have hls:lst l (i+1)=lst l i:=by rw [hls,if_neg (by omega),if_neg (by omega),if_neg (by omega)]
  rcases hE with ⟨_,hv1,hv2⟩ | ⟨h,_⟩ | ⟨h,_⟩ | ⟨h,_⟩ | ⟨h,_⟩ | ⟨h,_⟩ | ⟨h,_⟩
  ·refine ⟨by rw [hls,hv2];exact h1,by rw [hls,hv2];exact h2,fun hm=>?_⟩
   rw [hls,hv2,e1]
   rw [e0,if_pos rfl] at h3
   rw [if_neg (by simp)]
   show _++(s3 []).map pr=_
   rcases hv1 with hv1 | ⟨_,hv1⟩
   ·rw [hv1] at hm ⊢
    exact h3 hm
   ·obtain ⟨q1,q2⟩:=tells_false [[]] v.1 (by rw [hv1] at hm;exact hm)
    have q2:(tellS v.1 []).1=v.1.1++[[]]:=q2
    rw [hv1,q2]
    have e:(v.1.1++[[]]).flatten=v.1.1.flatten:=by simp
    rw [e]
    exact h3 q1
  all_goals omega
 ·rcases hE with ⟨h,_⟩ | ⟨k1',lk,rfl⟩ | ⟨k6,lk,b,hb,rfl⟩ | ⟨h,_⟩ | ⟨h,_⟩ | ⟨h,_⟩ | ⟨h,_⟩
  ·omega
  ·have hp:plB o.2.2.1=true:=by
    obtain ⟨_,q | q | q | q | q⟩:=hF
    ·exact q.2.2.1
    all_goals omega
   obtain ⟨b,_,hb2,hb3,_⟩:=pl_ok o.2.2.1 (by omega)
   obtain ⟨_,hok⟩:=hb3 (by rw [hb2];exact hp)
   rw [if_pos k1'] at hls
   refine ⟨by rw [hls];exact h1,by rw [hls];exact h2,fun hm=>?_⟩
   rw [hls,e1,if_neg e0]
   have:=h3 hm
   rw [if_neg e0] at this
   show _++(s3 (v.2.1++_)).map pr=_
   rw [s3_app,List.map_append,s3_cells hok, ← List.append_assoc,this,h1]
  ·have hls:lst l (i+1)=lst l i:=by rw [hls,if_neg (by omega),if_neg (by omega),if_neg (by omega)]
   refine ⟨by rw [hls];exact h1,by rw [hls];exact h2,fun hm=>?_⟩
   rw [hls,e1,if_neg e0]
   have:=h3 hm
   rw [if_neg e0] at this
   show _++(s3 (v.2.1++[_])).map pr=_
   have e:s3 [(([b],((1:Int),(lk,(v.2.2.1,())))):Gl)]=[]:=by
    rcases hb with rfl | rfl<;>rfl
   rw [s3_app,e,List.append_nil];exact this
  all_goals omega
 ·rcases hE with ⟨h,_⟩ | ⟨h,_⟩ | ⟨h,_⟩ | ⟨k2',rfl⟩ | ⟨k3,t,rfl⟩ | ⟨h,_⟩ | ⟨h,_⟩
  ·omega
  ·omega
  ·omega
  ·have hls:lst l (i+1)=lst l i:=by rw [hls,if_neg (by omega),if_neg (by omega),if_neg (by omega)]
   refine ⟨by rw [hls];exact h1,by rw [hls];exact h2,fun hm=>?_⟩
   rw [hls,e1,if_neg (by simp)]
   have:=h3 hm
   rw [if_neg e0] at this
   exact this
  ·rw [if_neg (by omega),if_pos k3] at hls
   refine ⟨?_,?_,fun hm=>?_⟩
   ·rw [hls]
    show ((v.2.2.2.length+1:Nat):Int)=_
    rw [h2]
   ·rw [hls]
    show (v.2.2.2++[t]).length=_
    rw [List.length_append,h2];rfl
   ·rw [hls,e1,if_neg (by simp)]
    have:=h3 hm
    rw [if_neg e0] at this
    exact this
  all_goals omega
 ·rw [if_neg (by omega),if_neg (by omega),if_pos k5] at hls
  rcases hE with ⟨h,_⟩ | ⟨h,_⟩ | ⟨h,_⟩ | ⟨h,_⟩ | ⟨h,_⟩ | ⟨_,rfl⟩ | ⟨h,_⟩
  ·omega
  ·omega
  ·omega
  ·omega
  ·omega
  ·refine ⟨by rw [hls, ← h1],by rw [hls];exact h2,fun hm=>?_⟩
   rw [hls,e1]
   have:=h3 hm
   rw [if_neg (fun e=>by rw [e] at e0;simp at e0)] at this
   show (sg v.1.1.flatten).map pr++(if (kst l i).dropLast=[] then [] else (s3 v.2.1).map pr)=(lst l i).2.1
   rw [if_neg (fun e=>by have:=congrArg List.length e;rw [List.length_dropLast] at this;simp only [List.length_nil] at this;omega)]
   exact this
  ·omega
 ·have hls:lst l (i+1)=lst l i:=by rw [hls,if_neg (by omega),if_neg (by omega),if_neg (by omega)]
  rcases hE with ⟨h,_⟩ | ⟨h,_⟩ | ⟨h,_⟩ | ⟨h,_⟩ | ⟨h,_⟩ | ⟨h,_⟩ | ⟨_,ls,⟨q,hq,hqs⟩,hv1,hv2⟩
  ·omega
  ·omega
  ·omega
  ·omega
  ·omega
  ·omega
  ·refine ⟨by rw [hls,hv2];exact h1,by rw [hls,hv2];exact h2,fun hm=>?_⟩
   rw [hv1] at hm ⊢
   obtain ⟨q1,q2⟩:=tells_false ls v.1 hm
   have hfl:=hG.fl
   obtain ⟨q',hq',_,hsg,_⟩:=fill_ok2 (l:=v.2.1) (w:=wd) (by omega) (by omega) hw.2 hG.fg
   rw [hq] at hq'
   injection hq' with hq'
   subst hq'
   have:=h3 q1
   rw [if_neg (fun e=>by rw [e] at e0;simp at e0)] at this
   rw [hls,e1,if_pos rfl,List.append_nil,q2,List.flatten_append,sg_app,List.map_append, ← hqs,hsg]
   exact this
theorem twin_eq {l:List Opr} (hl:l.length≤3000) (hW: ∀ o∈l,o.2.2.2.1.length*8≤140737488355328):foliolaw11_Twin l=some l:=by
 refine Ok.eq ?_
 unfold foliolaw11_Twin
 refine Ok.ends (Ok.range l (by omega) (fun i m=>m=l.take i) (fun i o m ho hm=>?_) (fun m hm=>?_) rfl)
 ·have hlt:=lt_len ho
  have hWo:=hW o (mem_at ho)
  subst hm
  refine Ok.yes (by show (i:Int)<_;omega) (Ok.bind (Ok.idxE ho) fun y hy=>?_)
  subst hy
  refine Ok.bind (Ok.appE (by simp only [List.length_nil];omega)) fun r hr=>?_
  rw [List.nil_append] at hr
  subst hr
  refine Ok.bind (Ok.appE (by rw [List.length_take];simp only [List.length_cons,List.length_nil];omega)) fun r hr=>Ok.inl ⟨wrapS (by omega),?_⟩
  subst hr
  show _=l.take (i+1)
  rw [List.take_add_one,ho];rfl
 ·refine Ok.no (by show ¬ ((l.length:Int)<_);omega) (Ok.inr ?_)
  rw [hm,List.take_length]
theorem flat_ok {l:List Opr} (hl:l.length≤3000):Ok (foliolaw13_flat l) fun b=>b=true→ ∀ o∈l,o.1<10:=by
 unfold foliolaw13_flat
 refine Ok.bind (Q:=fun d=>(d= .inl ()∧ ∀ o∈l,o.1<10)∨d= .inr false) ?_ fun d hd=>?_
 ·refine Ok.range0 l (by omega) (fun i=> ∀ o∈l.take i,o.1<10) (fun i o ho hi=>?_) (fun hi=>?_) (by simp)
  ·have hlt:=lt_len ho
   refine Ok.yes (by show (i:Int)<_;omega) (Ok.bind (Ok.idxE ho) fun y hy=>?_)
   subst hy
   refine Ok.ifs (fun _=>Ok.inr (.inr rfl)) fun h10=>Ok.inl ⟨wrapS (by omega),fun x hx=>?_⟩
   have h10: ¬ 10≤o.1:=h10
   rw [List.take_add_one,ho] at hx
   rcases List.mem_append.1 hx with hx | hx
   ·exact hi x hx
   ·rw [show x=o by simpa using hx];omega
  ·rw [List.take_length] at hi
   exact Ok.no (by show ¬ ((l.length:Int)<_);omega) (Ok.inr (.inl ⟨rfl,hi⟩))
 ·rcases hd with ⟨rfl,h⟩ | rfl
  ·exact Ok.some fun _=>h
  ·exact Ok.some fun h=>(by cases h)
def dps (ks:List Int):List Bool:=ks.tail.map fun k=>decide (k≠2)
theorem dps_step {ns nt:Int} {l:List Opr} {i:Nat} {o:Opr} (hV:VW ns nt l) (ho:l[i]? =some o):
  dps (kst l (i+1))=if o.1=2∨o.1=3∨o.1=4 then dps (kst l i)++[decide (o.1≠2)] else if o.1=5 then (dps (kst l i)).dropLast else dps (kst l i):=by
 obtain ⟨_,hk⟩:=hV.1 i o ho
 rcases nextK_cases hk with ⟨k8,e0,e1⟩ | ⟨k1,e0,e1⟩ | ⟨k2,e0,_,e1⟩ | ⟨k5,e0,e1⟩ | ⟨k9,e0,e1⟩
 ·rw [if_neg (by omega),if_neg (by omega),e1,e0];rfl
 ·rw [if_neg (by omega),if_neg (by omega),e1]
 ·rw [if_pos k2,e1]
  unfold dps
  rw [List.tail_append_of_ne_nil e0,List.map_append];rfl
 ·rw [if_neg (by omega),if_pos k5,e1]
  unfold dps
  rw [List.tail_dropLast,List.map_dropLast]
 ·rw [if_neg (by omega),if_neg (by omega),e1]
  unfold dps
  cases hks:kst l i with
  | nil=>rfl
  | cons a r=>
   rw [hks] at e0
   cases r with
   | nil=>rfl
   | cons b r=>simp at e0
theorem kst_len {ns nt:Int} {l:List Opr} (hV:VW ns nt l): ∀ i,i≤l.length→(kst l i).length≤17
 | 0,_=>by simp [kst]
 | i+1,h=>by
  have ih:=kst_len hV i (by omega)
  obtain ⟨o,ho⟩: ∃ o,l[i]? =some o:=⟨_,List.getElem?_eq_getElem (by omega)⟩
  obtain ⟨_,hk⟩:=hV.1 i o ho
  rcases nextK_cases hk with ⟨_,_,e1⟩ | ⟨_,_,e1⟩ | ⟨_,_,h16,e1⟩ | ⟨_,_,e1⟩ | ⟨_,_,e1⟩<;>rw [e1]
  ·simp
  ·exact ih
  ·rw [List.length_append];simp only [List.length_cons,List.length_nil];omega
  ·rw [List.length_dropLast];omega
  ·simp
theorem dps_len (ks:List Int):(dps ks).length=ks.length - 1:=by unfold dps;rw [List.length_map,List.length_tail]
theorem braced_ok {ns nt:Int} {l:List Opr} (hl:l.length≤3000) (hV:VW ns nt l):Ok (foliolaw13_braced l) fun b=>b=true:=by
 unfold foliolaw13_braced
 refine Ok.bind (Q:=fun d=>d= .inl ()) ?_ fun d hd=>by rw [hd];exact Ok.some rfl
 refine Ok.range l (by omega) (fun i n=>n=((dps (kst l i)).length:Int)) (fun i o n ho hn=>?_) (fun n hn=>?_) rfl
 ·have hlt:=lt_len ho
  obtain ⟨hF,hk⟩:=hV.1 i o ho
  have hkl:=kst_len hV i (by omega)
  have hdl:=dps_len (kst l i)
  have hs:=congrArg List.length (dps_step hV ho)
  refine Ok.yes (by show (i:Int)<_;omega) (Ok.bind (Ok.idxE ho) fun y hy=>?_)
  subst hy
  refine Ok.bind (Q:=fun r=>r=((dps (kst l (i+1))).length:Int)) ?_ fun r hr=>Ok.no (by show ¬ (r:Int)<0;omega) (Ok.inl ⟨wrapS (by omega),hr⟩)
  refine Ok.bind (Q:=fun b=>b=true↔(o.1=2∨o.1=3∨o.1=4)) ?_ fun b hb=>Ok.cond (fun hbt=>Ok.some ?_) fun hbf=>?_
  ·refine Ok.ifs (fun h2=>Ok.some ⟨fun _=> .inl h2,fun _=>decide_eq_true h2⟩) fun h2=>Ok.ifs (fun h3=>Ok.some ⟨fun _=> .inr (.inl h3),fun _=>decide_eq_true h3⟩) fun h3=>Ok.some ⟨fun h=> .inr (.inr (of_decide_eq_true h)),fun h=>decide_eq_true ?_⟩
   have h2: ¬ o.1=2:=h2
   have h3: ¬ o.1=3:=h3
   omega
  ·rw [if_pos (hb.1 hbt),List.length_append] at hs
   simp only [List.length_cons,List.length_nil] at hs
   rw [hn,wrap64 (by omega) (by omega),hs];omega
  ·have hn2: ¬ (o.1=2∨o.1=3∨o.1=4):=fun h=>by rw [hb.2 h] at hbf;cases hbf
   rw [if_neg hn2] at hs
   refine Ok.ifs (fun h5=>Ok.some ?_) fun h5=>Ok.some ?_
   ·have h5:o.1=5:=h5
    rw [if_pos h5,List.length_dropLast] at hs
    rcases nextK_cases hk with ⟨k8,_⟩ | ⟨k1,_⟩ | ⟨k2,_⟩ | ⟨_,e0,_⟩ | ⟨k9,_⟩
    ·omega
    ·omega
    ·omega
    ·rw [hn,wrap64 (by omega) (by omega),hs];omega
    ·omega
   ·have h5: ¬ o.1=5:=h5
    rw [if_neg h5] at hs
    rw [hn,hs]
 ·exact Ok.no (by show ¬ ((l.length:Int)<_);omega) (Ok.inr rfl)
theorem lst_len {l:List Opr}: ∀ i,i≤l.length→((lst l i).2.1.length:Int)≤totT (l.take i)∧(lst l i).2.2≤i
 | 0,_=>⟨by simp [lst,totT],Nat.le_refl _⟩
 | i+1,h=>by
  have ih:=lst_len (l:=l) i (by omega)
  obtain ⟨o,ho⟩: ∃ o,l[i]? =some o:=⟨_,List.getElem?_eq_getElem (by omega)⟩
  rw [totT_take ho,lst_s ho]
  have hc:=cells_len o.2.2.1
  have hfl:=List.length_filter_le (fun c:Cel=>decide (c.1≠[32])) (cellsS o.2.2.1)
  split
  ·refine ⟨?_,by dsimp only;omega⟩
   show (((lst l i).2.1++_).length:Int)≤_
   rw [List.length_append,List.length_map];omega
  ·split
   ·exact ⟨by dsimp only;omega,by dsimp only;omega⟩
   ·split
    ·exact ⟨by dsimp only;omega,by dsimp only;omega⟩
    ·exact ⟨by omega,by omega⟩
abbrev LdT:Type:=List (List Gl)×(List Rc×(List Tgt×(Bool×Unit)))
def lsv (l:List Opr) (d:LdT) (i:Nat):Int×(List Int×(List (List UInt8)×(Int×(Int×(List Bool×LdT))))):=((lst l i).1,((lst l i).2.1.map (·.2),((lst l i).2.1.map (·.1),((i:Int),(((lst l i).2.2:Int),(dps (kst l i),d))))))
theorem sg_at {pre post:List Gl} {g:Gl} (h:g.1≠[32]):(sg (pre++g::post))[(sg pre).length]? =some g:=by
 rw [sg_app,List.getElem?_append_right (Nat.le_refl _),Nat.sub_self]
 have:sg (g::post)=g::sg post:=by unfold sg;rw [List.filter_cons_of_pos (by simp [h])]
 rw [this];rfl
theorem flat_at {ll:List (List Gl)} {i:Nat} {x:List Gl} (h:ll[i]? =some x):ll.flatten=(ll.take i).flatten++(x++(ll.drop (i+1)).flatten):=by
 obtain ⟨hl,he⟩:=List.getElem?_eq_some_iff.1 h
 conv=>lhs;rw [← List.take_append_drop i ll,List.drop_eq_getElem_cons hl,he]
 rw [List.flatten_append,List.flatten_cons]
theorem all_law (sheet:List Sty) (l:List Opr) (topics wd:Int) (hT: ∀ o∈l,o.2.2.1.length≤140737488355328) (hW: ∀ o∈l,o.2.2.2.1.length*8≤140737488355328):foliolaw13_LayoutAll sheet l topics wd=some true:=by
 refine Ok.eq ?_
 unfold foliolaw13_LayoutAll
 rw [awake_true,Option.bind_some]
 refine Ok.cond (fun h=>by cases h) fun _=>?_
 refine Ok.bind (Q:=fun b=>b=false→l.length≤3000∧ ∀ o∈l,o.1<10) ?_ fun b hb=>Ok.cond (fun _=>Ok.some rfl) fun hbf=>?_
 ·cases h3:decide ((3000:Int)<((l.length:Nat):Int)) with
  | true=>exact Ok.some fun h=>(by cases h)
  | false=>
   have h3:=of_decide_eq_false h3
   refine Ok.bind (flat_ok (by omega)) fun r2 hr2=>Ok.some fun h=>⟨by omega,hr2 ?_⟩
   cases r2 with
   | true=>rfl
   | false=>cases h
 obtain ⟨hl,hf⟩:=hb hbf
 rw [twin_eq hl hW,Option.bind_some]
 have hlay:=layout_flat (CA l) (sheet:=sheet) (topics:=topics) (wd:=wd) hl hf hT ⟨rfl,rfl,fun _=>rfl⟩ fun hw hV htt i o v v' ho hC hG hE=>by
  have hlt:=lt_len ho
  exact hC.step hw hV ho (by have:=text_le (mem_at ho);omega) (by omega) (by
   have:=totT_le (l:=l) i
   omega) hG hE
 obtain ⟨r5,h5,_,hq5⟩:=hlay
 rw [h5,Option.bind_some]
 refine Ok.bind (Q:=fun q=>q.2=r5.1∧(q.1=false→r5.2=0∧r5.1.2.2.2.1=false)) ?_ fun q hq=>?_
 ·cases h0:decide ((r5.2:Int)≠0) with
  | true=>exact Ok.some ⟨rfl,fun h=>(by cases h)⟩
  | false=>exact Ok.some ⟨rfl,fun h=>⟨Classical.byContradiction fun h'=>(of_decide_eq_false h0) h',h⟩⟩
 obtain ⟨qb,qd⟩:=q
 obtain ⟨hqd,hqb⟩:=hq
 dsimp only at hqd hqb ⊢
 subst hqd
 refine Ok.cond (fun _=>Ok.some rfl) fun hqf=>?_
 obtain ⟨h50,hmore⟩:=hqb hqf
 obtain ⟨hV,htot,hw,v,hC,hG,hv1,hv2,hv3⟩:=hq5 h50
 obtain ⟨hC1,hC2,hC3⟩:=hC
 have hpairs:(sg r5.1.1.flatten).map pr=(lst l l.length).2.1:=by
  have:=hC3 (by rw [← hv2];exact hmore)
  rw [hV.2,if_pos rfl,List.append_nil, ← hv1] at this
  exact this
 have hlinks:r5.1.2.2.1.length=(lst l l.length).2.2:=by rw [hv3];exact hC2
 have hnl:r5.1.1.length≤2000:=by rw [hv1];exact hG.nl
 have hlw: ∀ x∈r5.1.1,LW 200 x:=by rw [hv1];exact hG.ll
 obtain ⟨d,n5⟩:=r5
 dsimp only at hpairs hlinks hnl hlw ⊢
 clear hC1 hC2 hC3 hv1 hv2 hv3 hq5 h5 hmore hqb hqf hb hbf
 refine Ok.bind (braced_ok hl hV) fun r7 hr7=>?_
 subst hr7
 refine Ok.cond (fun h=>by cases h) fun _=>?_
 refine Ok.bind (Q:=fun r:List Int×(List (List UInt8)×(Int×LdT))=>r=((lst l l.length).2.1.map (·.2),((lst l l.length).2.1.map (·.1),(((lst l l.length).2.2:Int),d)))) ?_ fun r24 hr24=>?_
 ·refine Ok.loop (fun k z=> ∃ i:Nat,i+k=l.length∧z=lsv l d i) (fun k z hz=>?_) l.length _ (by omega) ⟨0,by omega,rfl⟩
  obtain ⟨i,hi,rfl⟩:=hz
  refine Ok.ifs (fun hlt=>?_) fun hge=>Ok.inr ?_
  case refine_2=>
   have hge: ¬ (i:Int)<(l.length:Int):=hge
   have:i=l.length:=by omega
   rw [this];rfl
  have hlt:(i:Int)<(l.length:Int):=hlt
  obtain ⟨o,ho⟩: ∃ o,l[i]? =some o:=⟨_,List.getElem?_eq_getElem (by omega)⟩
  obtain ⟨hF,hk⟩:=hV.1 i o ho
  have hkk:=hF.kind
  have hTo:=text_le (mem_at ho)
  obtain ⟨hln1,hln2⟩:=lst_len (l:=l) i (by omega)
  have htt:=totT_le (l:=l) i
  have hkl:=kst_len hV i (by omega)
  have hdl:=dps_len (kst l i)
  have hds:=dps_step hV ho
  have hls:=lst_s ho
  refine Ok.bind (Q:=fun r=>r=((lst l (i+1)).1,((lst l (i+1)).2.1.map (·.2),((lst l (i+1)).2.1.map (·.1),(((lst l (i+1)).2.2:Int),(dps (kst l (i+1)),d)))))) ?_ fun r23 hr23=>Ok.inl ⟨k - 1,by omega,i+1,by omega,?_⟩
  case refine_2=>
   subst hr23
   show ((lst l (i+1)).1,_)=_
   unfold lsv
   show (_,(_,(_,(IntKind.wrap .i64 ((i:Int)+1),_))))=_
   rw [wrapS (by omega)]
  refine Ok.bind (Ok.idxE ho) fun y hy=>?_
  subst hy
  refine Ok.ifs (fun h1=>?_) fun h1=>?_
  ·have h1:o.1=1:=h1
   rw [if_neg (by omega),if_neg (by omega)] at hds
   rw [if_pos h1] at hls
   rw [show folioref02_Cells o.2.2.1=some (cellsS o.2.2.1) from cells_ref _ (by omega),Option.bind_some]
   have hcl:=cells_len o.2.2.1
   refine Ok.bind (Q:=fun r=>r=((lst l (i+1)).2.1.map (·.2),((lst l (i+1)).2.1.map (·.1),(dps (kst l i),d)))) ?_ fun r16 hr16=>?_
   ·refine Ok.range (cellsS o.2.2.1) (by omega) (fun j y=>y=(((lst l i).2.1++(((cellsS o.2.2.1).take j).filter fun c=>decide (c.1≠[32])).map (fun c=>(c.1,(lst l i).1))).map (·.2),(((lst l i).2.1++(((cellsS o.2.2.1).take j).filter fun c=>decide (c.1≠[32])).map (fun c=>(c.1,(lst l i).1))).map (·.1),(dps (kst l i),d)))) (fun j c y hc hy=>?_) (fun y hy=>?_) ?_
    ·have hjl:=lt_len hc
     subst hy
     refine Ok.yes (by show (j:Int)<_;omega) (Ok.bind (Q:=fun y=>y=(((lst l i).2.1++(((cellsS o.2.2.1).take (j+1)).filter fun c=>decide (c.1≠[32])).map (fun c=>(c.1,(lst l i).1))).map (·.2),(((lst l i).2.1++(((cellsS o.2.2.1).take (j+1)).filter fun c=>decide (c.1≠[32])).map (fun c=>(c.1,(lst l i).1))).map (·.1),(dps (kst l i),d)))) ?_ fun y hy=>Ok.inl ⟨wrapS (by omega),hy⟩)
     refine Ok.bind (Ok.idxE hc) fun x hx=>?_
     subst hx
     have htk:(cellsS o.2.2.1).take (j+1)=(cellsS o.2.2.1).take j++[c]:=by rw [List.take_add_one,hc];rfl
     have hfl:=List.length_filter_le (fun c:Cel=>decide (c.1≠[32])) ((cellsS o.2.2.1).take j)
     rw [List.length_take] at hfl
     refine Ok.ifs (fun h32=>?_) fun h32=>Ok.some ?_
     ·have h32:c.1≠[32]:=h32
      have hfc:(((cellsS o.2.2.1).take (j+1)).filter fun c=>decide (c.1≠[32]))=(((cellsS o.2.2.1).take j).filter fun c=>decide (c.1≠[32]))++[c]:=by
       rw [htk,List.filter_append]
       simp [h32]
      refine Ok.bind (Ok.appE (by simp only [List.length_map,List.length_append,List.length_cons,List.length_nil];omega)) fun w1 hw1=>Ok.bind (Ok.appE (by simp only [List.length_map,List.length_append,List.length_cons,List.length_nil];omega)) fun w2 hw2=>Ok.some ?_
      subst hw1 hw2
      rw [hfc]
      simp only [List.map_append,List.append_assoc]
      rfl
     ·have h32: ¬ (c.1≠[32]):=h32
      have hfc:(((cellsS o.2.2.1).take (j+1)).filter fun c=>decide (c.1≠[32]))=(((cellsS o.2.2.1).take j).filter fun c=>decide (c.1≠[32])):=by
       rw [htk,List.filter_append]
       have:c.1=[32]:=Classical.byContradiction h32
       simp [this]
      rw [hfc]
    ·refine Ok.no (by show ¬ (((cellsS o.2.2.1).length:Int)<_);omega) (Ok.inr ?_)
     rw [hy,List.take_length,hls]
    ·show ((lst l i).2.1.map (·.2),((lst l i).2.1.map (·.1),(dps (kst l i),d)))=_
     simp
   ·subst hr16
    refine Ok.some ?_
    rw [hds]
    have e1:(lst l (i+1)).1=(lst l i).1:=by rw [hls]
    have e2:(lst l (i+1)).2.2=(lst l i).2.2:=by rw [hls]
    rw [e1,e2];rfl
  ·have h1: ¬ o.1=1:=h1
   refine Ok.bind (Q:=fun r=>r.2=((lst l i).2.1.map (·.2),((lst l i).2.1.map (·.1),(dps (kst l i),(d,o))))∧(r.1=true↔(o.1=2∨o.1=3∨o.1=4))) ?_ fun r17 hr17=>?_
   ·refine Ok.ifs (fun h2=>Ok.some ⟨rfl,fun _=> .inl h2,fun _=>decide_eq_true h2⟩) fun h2=>Ok.ifs (fun h3=>Ok.some ⟨rfl,fun _=> .inr (.inl h3),fun _=>decide_eq_true h3⟩) fun h3=>Ok.some ⟨rfl,fun h=> .inr (.inr (of_decide_eq_true h)),fun h=>decide_eq_true ?_⟩
    have h2: ¬ o.1=2:=h2
    have h3: ¬ o.1=3:=h3
    omega
   obtain ⟨b17,r17⟩:=r17
   obtain ⟨he17,hb17⟩:=hr17
   dsimp only at he17 hb17 ⊢
   subst he17
   rw [if_neg h1] at hls
   refine Ok.cond (fun hbt=>?_) fun hbf=>?_
   ·have h234:=hb17.1 hbt
    rw [if_pos h234] at hds
    refine Ok.bind (Ok.appE (by simp only [List.length_cons,List.length_nil];omega)) fun r18 hr18=>?_
    have hr18:r18=dps (kst l (i+1)):=by rw [hr18,hds]
    subst hr18
    refine Ok.ifs (fun h2=>Ok.some ?_) fun h2=>Ok.some ?_
    ·have h2:o.1≠2:=h2
     rw [if_pos (by omega)] at hls
     have ew:IntKind.wrap .i64 (((lst l i).2.2:Int)+1)=(((lst l i).2.2+1:Nat):Int):=wrapS (by omega)
     rw [hls]
     show (IntKind.wrap .i64 (((lst l i).2.2:Int)+1),(_,(_,(IntKind.wrap .i64 (((lst l i).2.2:Int)+1),_))))=_
     rw [ew]
    ·have h2: ¬ o.1≠2:=h2
     rw [if_neg (by omega),if_neg (by omega)] at hls
     rw [hls];rfl
   ·have hn234: ¬ (o.1=2∨o.1=3∨o.1=4):=fun h=>by rw [hb17.2 h] at hbf;cases hbf
    rw [if_neg hn234] at hds
    rw [if_neg (by omega)] at hls
    refine Ok.ifs (fun h5=>?_) fun h5=>Ok.some ?_
    ·have h5:o.1=5:=h5
     rw [if_pos h5] at hds hls
     have e0:2≤(kst l i).length:=by
      rcases nextK_cases hk with ⟨k8,_⟩ | ⟨k1,_⟩ | ⟨k2,_⟩ | ⟨_,e0,_⟩ | ⟨k9,_⟩
      ·omega
      ·omega
      ·omega
      ·exact e0
      ·omega
     have e1:IntKind.wrap .i64 (((dps (kst l i)).length:Int) - 1)=(((dps (kst l i)).length - 1:Nat):Int):=by rw [wrap64 (by omega) (by omega)];omega
     have hlt':(dps (kst l i)).length - 1<(dps (kst l i)).length:=by omega
     have hlast:(dps (kst l i))[(dps (kst l i)).length - 1]=decide ((kst l i).getLast? ≠some 2):=by
      have hq:(dps (kst l i))[(dps (kst l i)).length - 1]? =some (decide ((kst l i)[(kst l i).length - 1]'(by omega)≠2)):=by
       unfold dps
       rw [List.getElem?_map,List.getElem?_tail,List.length_map,List.length_tail,show (kst l i).length - 1 - 1+1=(kst l i).length - 1 by omega,List.getElem?_eq_getElem (by omega)]
       rfl
      rw [List.getElem?_eq_getElem hlt'] at hq
      injection hq with hq
      rw [hq,List.getLast?_eq_getElem?,List.getElem?_eq_getElem (by omega)]
      refine decide_eq_decide.2 ?_
      simp
     refine Ok.bind (Q:=fun r=>r=((lst l (i+1)).1,((lst l i).2.1.map (·.2),((lst l i).2.1.map (·.1),(dps (kst l i),d))))) ?_ fun r21 hr21=>?_
     ·refine Ok.bind (Q:=(· =(dps (kst l i)).length - 1)) (by show Ok (chk (dps (kst l i)).length (IntKind.wrap .i64 (((dps (kst l i)).length:Int) - 1))) _;rw [e1];exact Ok.chk (by omega) (by omega) (by omega)) fun j hj=>?_
      subst hj
      refine Ok.bind (Ok.nth (Q:=(· =decide ((kst l i).getLast? ≠some 2))) hlt' hlast) fun b hb=>?_
      subst hb
      refine Ok.ifs (fun hne=>Ok.some ?_) fun hne=>Ok.some ?_
      ·rw [hls,if_neg hne]
      ·rw [hls,if_pos (Classical.byContradiction hne)];rfl
     ·subst hr21
      refine Ok.bind (Q:=(· =(dps (kst l i)).dropLast)) (by show Ok (sub (dps (kst l i)) 0 (IntKind.wrap .i64 (((dps (kst l i)).length:Int) - 1))) _;rw [e1];exact Ok.sub (by omega) (by omega) (by omega) (by rw [List.dropLast_eq_take];simp)) fun r22 hr22=>Ok.some ?_
      subst hr22
      rw [hds]
      have e2:(lst l (i+1)).2=(lst l i).2:=by rw [hls]
      rw [e2];rfl
    ·have h5: ¬ o.1=5:=h5
     rw [if_neg h5] at hds hls
     rw [hds,hls];rfl
 subst hr24
 generalize hP:(lst l l.length).2.1=P at*
 generalize hM:(lst l l.length).2.2=M at*
 have hPl:P.length≤1000000:=by
  have:=(lst_len (l:=l) l.length (Nat.le_refl _)).1
  rw [List.take_length,hP] at this
  omega
 refine Ok.bind (Q:=fun dd=>dd= .inl (P.map (·.1),((P.length:Int),d))) ?_ fun dd hdd=>?_
 ·refine Ok.loop (fun k (z:Int×(List Int×(List (List UInt8)×(Int×LdT))))=> ∃ i:Nat,i+k=d.1.length∧z=(((sg (d.1.take i).flatten).length:Int),(P.map (·.2),(P.map (·.1),((i:Int),d))))) (fun k z hz=>?_) d.1.length _ (by omega) ⟨0,by omega,rfl⟩
  obtain ⟨i,hi,rfl⟩:=hz
  refine Ok.ifs (fun hlt=>?_) fun hge=>Ok.inr ?_
  case refine_2=>
   have hge: ¬ (i:Int)<(d.1.length:Int):=hge
   have:d.1.take i=d.1:=List.take_of_length_le (by omega)
   dsimp only
   rw [this, ← hpairs,List.length_map]
  have hlt:(i:Int)<(d.1.length:Int):=hlt
  obtain ⟨x,hx⟩: ∃ x,d.1[i]? =some x:=⟨_,List.getElem?_eq_getElem (by omega)⟩
  have hxl:=(hlw x (mem_at hx)).len
  refine Ok.bind (Ok.idxE hx) fun y hy=>?_
  subst hy
  have hfa:=flat_at hx
  have htk:(d.1.take (i+1)).flatten=(d.1.take i).flatten++x:=by rw [List.take_add_one,hx,List.flatten_append];simp
  refine Ok.bind (Q:=fun r=>r= .inl (((sg (d.1.take (i+1)).flatten).length:Int),(P.map (·.2),(P.map (·.1),d)))) ?_ fun r35 hr35=>?_
  ·refine Ok.range x (by omega) (fun j y=>y=(((sg ((d.1.take i).flatten++x.take j)).length:Int),(P.map (·.2),(P.map (·.1),d)))) (fun j g y hg hy=>?_) (fun y hy=>?_) (by simp)
   ·have hjl:=lt_len hg
    subst hy
    have hxt:x.take (j+1)=x.take j++[g]:=by rw [List.take_add_one,hg];rfl
    refine Ok.yes (by show (j:Int)<_;omega) (Ok.bind (Q:=fun r=>r= .inl (((sg ((d.1.take i).flatten++x.take (j+1))).length:Int),(P.map (·.2),(P.map (·.1),d)))) ?_ fun r32 hr32=>by subst hr32;exact Ok.inl ⟨wrapS (by omega),rfl⟩)
    refine Ok.bind (Ok.idxE hg) fun g' hg'=>?_
    subst hg'
    rw [hxt, ← List.append_assoc]
    refine Ok.ifs (fun h32=>Ok.some ?_) fun h32=>?_
    ·have h32:g.1=[32]:=h32
     rw [sg_app _ [g],sg_blank (l:=[g]) (by simpa using h32),List.append_nil]
    ·have h32: ¬ g.1=[32]:=h32
     have hsplit:d.1.flatten=((d.1.take i).flatten++x.take j)++g::(x.drop (j+1)++(d.1.drop (i+1)).flatten):=by
      rw [hfa]
      conv=>lhs;rw [← List.take_append_drop j x,List.drop_eq_getElem_cons hjl,(List.getElem?_eq_some_iff.1 hg).2]
      simp only [List.append_assoc,List.cons_append]
     have hat:=sg_at (pre:=(d.1.take i).flatten++x.take j) (post:=x.drop (j+1)++(d.1.drop (i+1)).flatten) h32
     rw [← hsplit] at hat
     have hP:P[(sg ((d.1.take i).flatten++x.take j)).length]? =some (pr g):=by rw [← hpairs,List.getElem?_map,hat];rfl
     have h1:sg [g]=[g]:=sg_id (by intro y hy;rw [List.mem_singleton.1 hy];exact h32)
     rw [sg_app _ [g],h1,List.length_append]
     generalize (sg ((d.1.take i).flatten++x.take j)).length=n at hP ⊢
     have hnl:=lt_len hP
     refine Ok.bind (Q:=fun r=>r=(false,(P.map (·.2),(P.map (·.1),d)))) ?_ fun r31 hr31=>?_
     ·have hd1:decide ((((P.map (·.1)).length:Nat):Int)≤(n:Int))=false:=decide_eq_false (by rw [List.length_map];omega)
      show Ok (bif (!(decide ((((P.map (·.1)).length:Nat):Int)≤(n:Int)))) then _ else _) _
      rw [hd1]
      refine Ok.cond (fun _=>?_) fun h=>(by cases h)
      have hi1:(P.map (·.1))[n]? =some g.1:=by rw [List.getElem?_map,hP];rfl
      have hi2:(P.map (·.2))[n]? =some g.2.2.2.1:=by rw [List.getElem?_map,hP];rfl
      refine Ok.bind (Ok.idxE hi1) fun a ha=>?_
      subst ha
      rw [decide_eq_false (show ¬ (g.1≠g.1) from fun h=>h rfl)]
      refine Ok.cond (fun _=>?_) fun h=>(by cases h)
      refine Ok.bind (Ok.idxE hi2) fun a ha=>?_
      subst ha
      rw [decide_eq_false (show ¬ (g.2.2.2.1≠g.2.2.2.1) from fun h=>h rfl)]
      exact Ok.some rfl
     ·subst hr31
      refine Ok.cond (fun h=>by cases h) fun _=>Ok.some ?_
      show Sum.inl (IntKind.wrap .i64 ((n:Int)+1),_)=_
      rw [wrapS (by omega)];rfl
   ·refine Ok.no (by show ¬ ((x.length:Int)<_);omega) (Ok.inr ?_)
    rw [hy,List.take_length,htk]
  ·subst hr35
   refine Ok.onL (Ok.inl ⟨k - 1,by omega,i+1,by omega,?_⟩)
   show (_,(_,(_,(IntKind.wrap .i64 ((i:Int)+1),_))))=_
   rw [wrapS (by omega)]
 ·subst hdd
  refine Ok.onL (Ok.ends (Ok.yes ?_ (Ok.some (decide_eq_true ?_))))
  ·show (P.length:Int)=(((P.map (·.1)).length:Nat):Int)
   rw [List.length_map]
  ·show ((d.2.2.1.length:Nat):Int)=(M:Int)
   rw [hlinks]
abbrev OprT:Ty:= .st (.pr (.int .i64) (.pr (.int .i64) (.pr .str (.pr (.sl (.int .i64)) .unit))))
theorem all_true (sheet:List Sty) (l:List Opr) (topics wd:Int) (h:Wf (.sl OprT) l):foliolaw13_LayoutAll sheet l topics wd=some true:=by
 have ho: ∀ o∈l,o.2.2.1.length≤140737488351232∧o.2.2.2.1.length*8≤140737488351232:=fun o ho=>by
  have h1:=h.2 o ho
  obtain ⟨_,_,h2,h3,_⟩:=h1
  exact ⟨h2,h3.1⟩
 exact all_law sheet l topics wd (fun o hm=>by have:=(ho o hm).1;omega) fun o hm=>by have:=(ho o hm).2;omega
end Go.Fn
