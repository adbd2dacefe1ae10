/- The document's characters and cells, plainly: the same as the program's. -/
import Derived.Test.YthfjjohdpoekjaaGreatDoorQAE
import Derived.Lib.TrimAscii
import Derived.Test.YthfjjohdpoekjaaGreatDoorQAD
import Derived.Carry
import Derived.ChangeSame
import Derived.ChangeMaps5
import Derived.SizedLaws
import Derived.ChangeSlices
import Derived.SliceStrings
import Derived.ProofKit
import Derived.OpenShut
import Derived.Deep.DeepHandedRow
import Derived.Lib.LaidTab
namespace Go.Fn
open Go Go.Lf
theorem Vh (r a b:Int):aB r a b=some (lX r a b):=by
 unfold aB lX
 rw [tu];rfl
theorem K5 (r:Int) (h:0≤r):dR r=some (ctl r):=by
 unfold dR ctl lX
 rw [decide_eq_true h,tu]
 cases decide (r<32)<;>rfl
theorem IW (p q:Bool):(bif (!p) then some q else some true)=some (p || q):=by cases p<;>rfl
theorem UA (r:Int) (h:0≤r):gQ r=some (wd r):=by
 unfold gQ
 simp only [K5 r h,Vh,Option.bind_some,IW]
 have e0:w0 r=(ctl r || (lX r 768 879 || (lX r 8203 8205 || lX r 65024 65039))):=by
  unfold w0 ctl
  rw [decide_eq_true h,Bool.true_and,Bool.or_assoc]
 have e2:w2 r=((lX r 4352 4447 || (lX r 11904 12350 || (lX r 12353 13311 || (lX r 13312 19903 || (lX r 19968 42191 || lX r 44032 55203))))) || (lX r 63744 64255 || (lX r 65072 65135 || (lX r 65280 65376 || (lX r 65504 65510 || (lX r 127744 128591 || (lX r 129280 129535 || lX r 131072 262141))))))):=by
  have:w2 r=(lX r 4352 4447 || (lX r 11904 12350 || (lX r 12353 13311 || (lX r 13312 19903 || (lX r 19968 42191 || (lX r 44032 55203 || (lX r 63744 64255 || (lX r 65072 65135 || (lX r 65280 65376 || (lX r 65504 65510 || (lX r 127744 128591 || (lX r 129280 129535 || (lX r 131072 262141 || false))))))))))))):=rfl
  rw [this]
  simp only [Bool.or_assoc,Bool.or_false]
 unfold wd
 rw [e0,e2]
 generalize (ctl r || (lX r 768 879 || (lX r 8203 8205 || lX r 65024 65039)))=A
 generalize (lX r 4352 4447 || (lX r 11904 12350 || (lX r 12353 13311 || (lX r 13312 19903 || (lX r 19968 42191 || lX r 44032 55203)))))=B
 generalize (lX r 63744 64255 || (lX r 65072 65135 || (lX r 65280 65376 || (lX r 65504 65510 || (lX r 127744 128591 || (lX r 129280 129535 || lX r 131072 262141))))))=C
 cases A<;>cases B<;>cases C<;>rfl
theorem KM (l:List UInt8): ∀ (f p:Nat),l.length≤p+f→ ∀ (i:Nat) c,(sK l f p)[i]? =some c→
  (∃ q:Nat,c=iF l q∧q<l.length)∧(match (sK l f p)[i+1]? with | some d=>d.2.1=c.2.1+c.2.2.1 | none=>(l.length:Int)=c.2.1+c.2.2.1)
 | 0,p,_,i,c,h=>by simp [sK] at h
 | f+1,p,hf,i,c,h=>by
  by_cases hp:p<l.length
  ·have hw:=Lib.decodeL_width (l.drop p)
   have hfit:=uq l p hp
   rw [y_ hp] at h ⊢
   cases i with
   | zero=>
    have hc:iF l p=c:=by simpa using h
    subst hc
    refine ⟨⟨p,rfl,hp⟩,?_⟩
    simp only [List.getElem?_cons_succ]
    by_cases hq:p+(Lib.decodeL (l.drop p)).2<l.length
    ·cases f with
     | zero=>omega
     | succ f=>rw [y_ hq];simp [iF]
    ·rw [uG hq]
     simp [iF];omega
   | succ i=>
    have:=KM l f (p+(Lib.decodeL (l.drop p)).2) (by omega) i c (by simpa using h)
    simpa using this
  ·rw [uG hp] at h;simp at h
def mU (F:List Eg) (i:Nat):List Eg:=F.take i++(F.drop i).map EC
theorem RS (F:List Eg) (i:Nat):(mU F i).length=F.length:=by simp [mU];omega
theorem NZ {F:List Eg} {i j:Nat} {c:Eg} (hj:i≤j) (h:F[j]? =some c):(mU F i)[j]? =some (EC c):=by
 have hl:=(List.getElem?_eq_some_iff.1 h).1
 unfold mU
 rw [List.getElem?_append_right (by simp;omega),List.getElem?_map,List.getElem?_drop]
 rw [show i+(j - (F.take i).length)=j by simp;omega,h]
 rfl
theorem R5 {F:List Eg} {i:Nat} {c:Eg} (h:F[i]? =some c):(mU F i).set i c=mU F (i+1):=by
 obtain ⟨hl,hc⟩:=List.getElem?_eq_some_iff.1 h
 unfold mU
 have h1:F.take (i+1)=F.take i++[c]:=by rw [List.take_add_one,h];rfl
 rw [List.drop_eq_getElem_cons hl,hc,List.map_cons,List.set_append_right _ _ (by simp;omega),h1]
 simp [show i - min i F.length=0 by omega]
theorem Ij (l:List UInt8) (hl:l.length≤1000000000):gM l=some (sK l l.length 0):=by
 refine Ok.eq ?_
 unfold gM
 refine Ok.bind (Q:=(· =(sK l l.length 0).map EC)) ?_ fun r hr=>?_
 ·refine Ok.loop (fun k (z:List Eg×(List UInt8×Int))=> ∃ p:Nat,z.2=(l,(p:Int))∧p+k=l.length∧z.1.length≤p∧z.1++(sK l l.length p).map EC=(sK l l.length 0).map EC) (fun k z hz=>?_) l.length _ (by omega) ⟨0,rfl,by omega,Nat.le_refl _,rfl⟩
  obtain ⟨acc,z2⟩:=z
  obtain ⟨p,hz1,hz2,hz3,hz4⟩:=hz
  dsimp only at hz1 hz3 hz4 ⊢
  subst hz1
  dsimp only
  refine Ok.ifs (fun hlt=>?_) fun hge=>Ok.inr ?_
  ·have hlt:(p:Int)<(l.length:Int):=hlt
   have hpl:p<l.length:=by omega
   obtain ⟨er,ew⟩:=G9 l p
   have hw1:=Lib.decodeL_width (l.drop p)
   have hw2:=uq l p hpl
   rw [er,ew]
   refine Ok.bind (Ok.jk (by simp only [List.length_cons,List.length_nil];omega)) fun m hm=>Ok.inl ⟨k - (Lib.decodeL (l.drop p)).2,by omega,p+(Lib.decodeL (l.drop p)).2,?_,by omega,?_,?_⟩
   ·show (l,(p:Int)+((Lib.decodeL (l.drop p)).2:Int))=_
    rw [Int.natCast_add]
   ·subst hm
    show (acc++[_]).length≤_
    rw [List.length_append];simp only [List.length_cons,List.length_nil];omega
   ·subst hm
    rw [Cs hpl,List.map_cons] at hz4
    rw [← hz4]
    simp [EC,iF]
  ·have hge: ¬ (p:Int)<(l.length:Int):=hge
   rw [uG (by omega)] at hz4
   simpa using hz4
 ·subst hr
  have hF:=KM l l.length 0 (by omega)
  have hFl:=De l l.length 0
  generalize hFe:sK l l.length 0=F at*
  refine Ok.ends (Ok.loop (fun k (z:Int×List Eg)=> ∃ i:Nat,z=((i:Int),mU F i)∧i+k=F.length) (fun k z hz=>?_) F.length _ (by omega) ⟨0,by simp [mU],by omega⟩)
  obtain ⟨i,rfl,hi⟩:=hz
  dsimp only
  have hml:=RS F i
  refine Ok.ifs (fun hlt=>?_) fun hge=>Ok.inr ?_
  case refine_2=>
   have hge: ¬ (i:Int)<((mU F i).length:Int):=hge
   have:i=F.length:=by omega
   rw [this];simp [mU]
  have hlt:(i:Int)<((mU F i).length:Int):=hlt
  have hi':i<F.length:=by omega
  obtain ⟨c,hc⟩: ∃ c,F[i]? =some c:=⟨_,List.getElem?_eq_getElem hi'⟩
  obtain ⟨⟨q,hq,hql⟩,hnx⟩:=hF i c hc
  have hwf:=uq l q hql
  have hw:IntKind.wrap .i64 ((i:Int)+1)=((i+1:Nat):Int):=aN (by omega)
  have chkN: ∀ {n j:Nat},j<n→lG n (j:Int)=some j:=fun {n j} h=>by unfold lG;rw [if_pos (by omega)];simp
  have hck: ∀ L:List Eg,L.length=F.length→lG L.length (i:Int)=some i:=fun L hL=>chkN (by omega)
  have hn0:nth (mU F i) i=some (EC c):=NZ (Nat.le_refl _) hc
  have hend:(bif (decide ((IntKind.wrap .i64 ((i:Int)+(1:Int)))<(((List.length (mU F i)):Nat):Int))) then ((Go.Lf.lG (List.length (mU F i)) (IntKind.wrap .i64 ((i:Int)+(1:Int))))).bind fun r5=>
     ((Go.Lf.nth (mU F i) r5)).bind fun r6=>
     some (mU F i,r6.2.1)
     else some (mU F i,(((List.length l):Nat):Int)))=some (mU F i,c.2.1+c.2.2.1):=by
   rw [hw]
   by_cases h1:i+1<F.length
   ·have h1':((i+1:Nat):Int)<(((mU F i).length:Nat):Int):=by rw [hml];omega
    obtain ⟨d,hd⟩: ∃ d,F[i+1]? =some d:=⟨_,List.getElem?_eq_getElem h1⟩
    rw [hd] at hnx
    have hnx:d.2.1=c.2.1+c.2.2.1:=hnx
    have hk1:lG (mU F i).length ((i+1:Nat):Int)=some (i+1):=chkN (by rw [hml];omega)
    have hn1:nth (mU F i) (i+1)=some (EC d):=NZ (by omega) hd
    simp only [h1',decide_true,cond_true,hk1,Option.bind_some,hn1,EC,hnx]
   ·have h1': ¬ ((i+1:Nat):Int)<(((mU F i).length:Nat):Int):=by rw [hml];omega
    rw [List.getElem?_eq_none (by omega)] at hnx
    have hnx:((l.length:Nat):Int)=c.2.1+c.2.2.1:=hnx
    simp only [h1',decide_false,cond_false,hnx]
  have hwn:IntKind.wrap .i64 (c.2.1+c.2.2.1 - c.2.1)=c.2.2.1:=by
   rw [hq]
   simp only [iF]
   rw [wrap64 (by omega) (by omega)];omega
  have hset1: ∀ x:Eg,nth ((mU F i).set i x) i=some x:=fun x=>by
   unfold nth
   rw [List.getElem?_set_self (by rw [hml];exact hi')]
  refine Ok.bind (Q:=(· =mU F (i+1))) (Ok.of ?_ rfl) fun r hr=>Ok.inl ⟨k - 1,by omega,i+1,by rw [hr,hw],by omega⟩
  rw [hend]
  simp only [Option.bind_some,hck _ hml,hn0,EC,hwn,List.length_set,hset1,List.set_set,u2,u3]
  have hfin: ∀ b:Bool,b=c.2.2.2.1→(mU F i).set i (c.1,c.2.1,c.2.2.1,b,())=mU F (i+1):=fun b hb=>by
   rw [← R5 hc,hb]
  have hbad:c.2.2.2.1=(decide (c.1=65533) && decide (c.2.2.1=1)):=by
   rw [hq]
   have e1:decide ((((Lib.decodeL (l.drop q)).1:Nat):Int)=65533)=decide ((Lib.decodeL (l.drop q)).1=65533):=decide_eq_decide.2 (by omega)
   have e2:decide ((((Lib.decodeL (l.drop q)).2:Nat):Int)=1)=decide ((Lib.decodeL (l.drop q)).2=1):=decide_eq_decide.2 (by omega)
   show _=(decide ((((Lib.decodeL (l.drop q)).1:Nat):Int)=65533) && decide ((((Lib.decodeL (l.drop q)).2:Nat):Int)=1))
   rw [e1,e2]
   rfl
  cases h65:decide (c.1=65533) with
  | true=>
   rw [h65,Bool.true_and] at hbad
   simp only [cond_true]
   rw [hfin _ hbad.symm]
  | false=>
   rw [h65,Bool.false_and] at hbad
   simp only [cond_false]
   rw [hfin _ hbad.symm]
theorem Kg {l:List UInt8} {i:Nat} {c:Eg} (h:(sK l l.length 0)[i]? =some c): ∃ q:Nat,c=iF l q∧q<l.length:=(KM l l.length 0 (by omega) i c h).1
theorem Nj {l:List UInt8} {q:Nat} (hq:q<l.length) (hl:l.length≤1000000000):sub l (iF l q).2.1 (IntKind.wrap .i64 ((iF l q).2.1+(iF l q).2.2.1))=some (piece l (iF l q)):=by
 have hw:=uq l q hq
 unfold piece iF
 dsimp only
 rw [wrap64 (by omega) (by omega)]
 unfold sub
 rw [if_pos (by omega)]
 congr 2
 omega
def big (i:Nat):Nat:=i*1000000
theorem VY (i:Nat):big (i+1)=big i+1000000:=by unfold big;omega
theorem TR {i:Nat} (h:i≤1000000):big i≤1000000000000:=by unfold big;omega
theorem FL (l:List UInt8) (hl:l.length≤1000000):dQ l=some (cellsS l):=by
 refine Ok.eq ?_
 unfold dQ cellsS
 rw [Ij l (by omega),Option.bind_some]
 have hFl:=De l l.length 0
 have hm:= @Kg l
 generalize sK l l.length 0=F at*
 refine Ok.ends (Ok.range F (by omega) (fun i out=>out=(F.take i).foldl (xA l) []∧out.length≤i∧ ∀ c∈out,c.1.length≤big i) (fun i c out hc hs=>?_) (fun out hs=>?_) ⟨rfl,by simp,by simp⟩)
 ·obtain ⟨hs1,hs2,hs3⟩:=hs
  have hlt:=a_ hc
  obtain ⟨q,hq,hql⟩:=hm hc
  refine Ok.yes (by show (i:Int)<_;omega) ?_
  have hx:idx F (i:Int)=some c:=by rw [zJ,hc]
  have hwd:gQ c.1=some (wd c.1):=UA _ (by rw [hq];exact Int.natCast_nonneg _)
  have hsb:sub l c.2.1 (IntKind.wrap .i64 (c.2.1+c.2.2.1))=some (piece l c):=by rw [hq];exact Nj hql (by omega)
  have hbs:=VY i
  have hbl:=TR (i:=i) (by omega)
  have hpl:(piece l c).length≤1000000:=by
   unfold piece
   rw [List.length_take,List.length_drop];omega
  simp only [hx,Option.bind_some,hwd,hsb]
  refine Ok.bind (Q:=fun m:List LF=>m=xA l out c∧ ∀ x∈m,x.1.length≤big (i+1)) ?_ fun m hm2=>Ok.inl ⟨aN (by omega),?_,?_,hm2.2⟩
  case refine_2=>rw [List.take_add_one,hc,List.foldl_append, ← hs1];exact hm2.1
  case refine_3=>
   have:=CQ l out c
   show m.length≤_
   rw [hm2.1];omega
  refine Ok.bind (Q:=fun q=>q.2=out∧(q.1=true↔(wd c.1=0∧0<out.length))) (Ok.ifs (fun h=>Ok.some ⟨rfl,?_⟩) fun h=>Ok.some ⟨rfl,?_⟩) fun q hq=>?_
  ·have h:wd c.1=0:=h
   rw [decide_eq_true_iff]
   exact ⟨fun h2=>⟨h,by have h2:(0:Int)<(out.length:Int):=h2;omega⟩,fun h2=>by show (0:Int)<(out.length:Int);omega⟩
  ·have h: ¬ wd c.1=0:=h
   exact ⟨fun h2=>(by cases h2),fun h2=>absurd h2.1 h⟩
  obtain ⟨b,out'⟩:=q
  obtain ⟨hq1,hq2⟩:=hq
  dsimp only at hq1 hq2 ⊢
  subst hq1
  refine Ok.cond (fun h=>?_) fun h=>?_
  ·obtain ⟨h1,h2⟩:=hq2.1 h
   have e1:IntKind.wrap .i64 (((out'.length:Nat):Int) - 1)=((out'.length - 1:Nat):Int):=by rw [wrap64 (by omega) (by omega)];omega
   rw [e1]
   have hlt':out'.length - 1<out'.length:=by omega
   refine Ok.bind (Ok.DK hlt') fun j hj=>?_
   subst hj
   refine Ok.bind (Ok.nth (Q:=(· =out'[out'.length - 1])) hlt' rfl) fun x hx=>?_
   subst hx
   have hcl:=hs3 _ (List.getElem_mem hlt')
   refine Ok.bind (Ok.cat (Q:=(· =out'[out'.length - 1].1++piece l c)) (by omega) rfl) fun v hv=>?_
   subst hv
   refine Ok.bind (Ok.DK hlt') fun j hj=>?_
   subst hj
   refine Ok.bind (Ok.nth (Q:=(· =out'[out'.length - 1])) hlt' rfl) fun x hx=>?_
   subst hx
   refine Ok.some ⟨?_,fun x hx=>?_⟩
   ·unfold xA
    rw [if_pos ⟨h1,h2⟩,getD_at hlt']
   ·rcases List.mem_or_eq_of_mem_set hx with hx | hx
    ·have:=hs3 x hx
     omega
    ·rw [hx]
     show (out'[out'.length - 1].1++piece l c).length≤_
     rw [List.length_append];omega
  ·have hn: ¬ (wd c.1=0∧0<out'.length):=fun h2=>by rw [hq2.2 h2] at h;cases h
   refine Ok.ends ((Ok.jk (by simp only [List.length_cons,List.length_nil];omega)).imp fun m hm=>⟨?_,fun x hx=>?_⟩)
   ·rw [hm]
    unfold xA
    rw [if_neg hn]
   ·rw [hm] at hx
    rcases List.mem_append.1 hx with hx | hx
    ·have:=hs3 x hx
     omega
    ·rw [List.mem_singleton.1 hx]
     show (piece l c).length≤_
     omega
 ·obtain ⟨hs1,_⟩:=hs
  rw [List.take_length] at hs1
  exact Ok.no (by show ¬ ((F.length:Int)<_);omega) (Ok.inr hs1)
end Go.Fn
/- Operations without lists and tables, looked at one by one, plainly. -/
namespace Go.Fn
open Go Go.Lf
abbrev mF:Type:=Int×(Int×(List UInt8×(List Int×Unit)))
abbrev Wk:Type:=dZ
abbrev WU (w:Wk):List (Int×eB):=kD dP 26 w.1
theorem RX (w:Wk):(WU w).length=26:=ng
def FP (ks:List Int):Prop:=ks=[]∨ ∃ r,ks=8::r∧(∀ k∈r,k=2∨k=3∨k=4)∧r.length≤16
theorem FP.len {ks:List Int} (h:FP ks):ks.length≤17:=by
 rcases h with rfl | ⟨r,rfl,_,h⟩
 ·simp
 ·simp only [List.length_cons];omega
theorem FP.get {ks:List Int} (h:FP ks) {i:Nat} {k:Int} (hi:ks[i]? =some k):(i=0∧k=8)∨(0<i∧(k=2∨k=3∨k=4)):=by
 rcases h with rfl | ⟨r,rfl,hr,_⟩
 ·simp at hi
 ·cases i with
  | zero=>exact .inl ⟨rfl,by simpa using hi.symm⟩
  | succ i=>exact .inr ⟨by omega,hr k (List.mem_of_getElem? (by simpa using hi))⟩
structure WI (ns nt last:Int) (ks:List Int) (w:Wk):Prop where
 dp:w.2.1=ks.length
 st:w.2.2.1=ns
 tp:w.2.2.2.1=nt
 la:w.2.2.2.2.1=last
 ar: ∀ (i:Nat) k,ks[i]? =some k→ ∃ o,(WU w)[i]? =some o∧o.1=k
 fl:FP ks
def cO (ks:List Int) (k:Int):Option (List Int):=
 if k=8 then (if ks=[] then some [8] else none)
 else if ks=[] then none
 else if k=1∨k=6∨k=7 then some ks
 else if k=2 then (if ks.length≤16 then some (ks++[2]) else none)
 else if k=3∨k=4 then (if (∀ j∈ks,j≠3∧j≠4)∧ks.length≤16 then some (ks++[k]) else none)
 else if k=5 then (if 2≤ks.length then some ks.dropLast else none)
 else if k=9 then (if ks.length=1 then some [] else none)
 else none
theorem FP.cons {ks:List Int} (h:FP ks) (h0:ks≠[]) {k:Int} (hk:k=2∨k=3∨k=4) (hl:ks.length≤16):FP (ks++[k]):=by
 rcases h with rfl | ⟨r,rfl,hr,_⟩
 ·exact absurd rfl h0
 ·refine .inr ⟨r++[k],rfl,fun x hx=>?_,?_⟩
  ·rcases List.mem_append.1 hx with hx | hx
   ·exact hr x hx
   ·rw [List.mem_singleton.1 hx];exact hk
  ·simp only [List.length_cons] at hl
   simp only [List.length_append,List.length_cons,List.length_nil];omega
theorem FP.drop {ks:List Int} (h:FP ks) (hl:2≤ks.length):FP ks.dropLast:=by
 rcases h with rfl | ⟨r,rfl,hr,hq⟩
 ·simp at hl
 ·cases r with
  | nil=>simp at hl
  | cons a r=>
   refine .inr ⟨(a::r).dropLast,rfl,fun x hx=>hr x ((List.dropLast_sublist _).subset hx),?_⟩
   simp only [List.length_dropLast]
   omega
section
variable {ns nt last:Int} {ks:List Int} {w:Wk}
theorem RU (h:WI ns nt last ks w):kL w=some (if ks=[] then -1 else 0,w):=by
 refine Ok.eq ?_
 unfold kL
 have hl:=h.fl.len
 have e0:IntKind.wrap .i64 (w.2.1 - 1)=(ks.length:Int) - 1:=by rw [h.dp];exact wrap64 (by omega) (by omega)
 rw [e0]
 refine Ok.bind (Q:=fun d=>d=if ks=[] then .inl w else .inr (0,w)) ?_ fun d hd=>?_
 ·refine Ok.loop (fun k (z:Int×Wk)=>z.2=w∧z.1=(k:Int) - 1∧k≤ks.length∧(ks≠[]→1≤k)) (fun k z hz=>?_) ks.length _ (by omega) ⟨rfl,rfl,Nat.le_refl _,fun h=>by cases ks with | nil=>exact absurd rfl h | cons a r=>simp⟩
  obtain ⟨z1,z2⟩:=z
  obtain ⟨h1,h2,h3,h4⟩:=hz
  dsimp only at h1 h2 ⊢
  subst h1 h2
  refine Ok.ifs (fun hge=>?_) fun hlt=>Ok.inr ?_
  ·have hge:(0:Int)≤(k:Int) - 1:=hge
   have hk:k - 1<ks.length:=by omega
   obtain ⟨o,ho,hok⟩:=h.ar (k - 1) _ (List.getElem?_eq_getElem hk)
   have hget:=h.fl.get (List.getElem?_eq_getElem hk)
   refine Ok.bind (Ok.lG (Q:=(· =k - 1)) (by omega) (by omega) (by omega)) fun j hj=>?_
   subst hj
   refine Ok.bind (Q:=(· =o)) (Ok.of ho rfl) fun y hy=>?_
   subst hy
   refine Ok.ifs (fun h8=>Ok.inr ?_) fun h8=>Ok.inl ⟨k - 1,by omega,rfl,?_,by omega,fun _=>?_⟩
   ·have h8:y.1=8:=h8
    rw [hok] at h8
    have hk1:k=1:=by omega
    have hne:ks≠[]:=fun e=>by rw [e] at hk;simp at hk
    rw [if_neg hne,hk1];rfl
   ·show IntKind.wrap .i64 ((k:Int) - 1 - 1)=_
    rw [wrap64 (by omega) (by omega)];omega
   ·have h8: ¬ y.1=8:=h8
    rw [hok] at h8
    omega
  ·have hlt: ¬ (0:Int)≤(k:Int) - 1:=hlt
   have:ks=[]:=Classical.byContradiction fun hn=>by have:=h4 hn;omega
   rw [if_pos this]
 ·rw [hd]
  by_cases hn:ks=[]
  ·rw [if_pos hn,if_pos hn];exact Ok.some rfl
  ·rw [if_neg hn,if_neg hn];exact Ok.some rfl
theorem OA (h:WI ns nt last ks w):bT w=some (if ks=[] then none else some (ks.length - 1)):=by
 unfold bT iK
 have hl:=h.fl.len
 by_cases hn:ks=[]
 ·have e:w.2.1=0:=by rw [h.dp,hn];rfl
  rw [decide_eq_true e,if_pos hn];rfl
 ·have hp:0<ks.length:=List.length_pos_iff.2 hn
  have e: ¬ w.2.1=0:=by rw [h.dp];omega
  have e1:IntKind.wrap .i64 (w.2.1 - 1)=((ks.length - 1:Nat):Int):=by rw [h.dp,wrap64 (by omega) (by omega)];omega
  rw [decide_eq_false e,if_neg hn,e1]
  have:lG 26 ((ks.length - 1:Nat):Int)=some (ks.length - 1):=by unfold lG;rw [if_pos (by omega)];simp
  rw [this];rfl
theorem Sk (h:WI ns nt last [] w) (k:Int):bQ w k=some (false,w):=by
 unfold bQ
 rw [OA h];rfl
theorem Lp (h:WI ns nt last ks w) {o:Int×eB} (hf:FP (ks++[o.1])):Ok (dE w o) (WI ns nt last (ks++[o.1])):=by
 unfold dE
 have hl:=h.fl.len
 have hd:=h.dp
 refine Ok.bind (Ok.lG (Q:=(· =ks.length)) (by omega) (by omega) (by omega)) fun j hj=>?_
 subst hj
 have hlt:ks.length<(WU w).length:=by rw [RX];omega
 refine Ok.bind (Ok.nth (Q:=fun _=>True) hlt trivial) fun y _=>Ok.some ?_
 refine { dp:=?_,st:=h.st,tp:=h.tp,la:=h.la,ar:=fun i k hi=>?_,fl:=hf }
 ·show IntKind.wrap .i64 (w.2.1+1)=_
  rw [hd,wrap64 (by omega) (by omega),List.length_append];rfl
 ·have e:WU (Ef dP 26 w.1 ks.length o,(IntKind.wrap .i64 (w.2.1+1),w.2.2))=(WU w).set ks.length o:=Cj
  rw [e]
  by_cases he:i=ks.length
  ·subst he
   rw [List.getElem?_append_right (Nat.le_refl _),Nat.sub_self] at hi
   have hi:o.1=k:=by simpa using hi
   exact ⟨o,by rw [List.getElem?_set_self hlt],hi⟩
  ·have hil:=a_ hi
   rw [List.length_append] at hil
   have hil:i<ks.length:=by simp only [List.length_cons,List.length_nil] at hil;omega
   rw [List.getElem?_append_left hil] at hi
   rw [List.getElem?_set_ne (by omega)]
   exact h.ar i k hi
theorem WI.pop (h:WI ns nt last ks w) (hk:1≤ks.length) (hf:FP ks.dropLast):WI ns nt last ks.dropLast (w.1,(IntKind.wrap .i64 (w.2.1 - 1),w.2.2)):=by
 have hl:=h.fl.len
 refine { dp:=?_,st:=h.st,tp:=h.tp,la:=h.la,ar:=fun i k hi=>?_,fl:=hf }
 ·show IntKind.wrap .i64 (w.2.1 - 1)=_
  rw [h.dp,wrap64 (by omega) (by omega),List.length_dropLast];omega
 ·have hil:=a_ hi
  rw [List.length_dropLast] at hil
  rw [List.getElem?_dropLast,if_pos (by omega)] at hi
  exact h.ar i k hi
def XJ (ns nt last:Int) (ks:List Int) (k:Int) (r:Bool×Wk):Prop:=(r.1=true→ ∃ ks',cO ks k=some ks'∧WI ns nt last ks' r.2)∧(r.1=false→cO ks k=none)
theorem Ky (h:WI ns nt last ks w) {k:Int} {o:mF} (hk:k=2∨k=3∨k=4) (ho:o.1=k) (hn:k=2∨ ∀ j∈ks,j≠3∧j≠4) {at_:Int} (ha:at_=if ks=[] then -1 else 0) {f:Bool×Wk×mF→Option (Bool×Wk)}
  (hf: ∀ r,f r=bif r.1 then some (false,r.2.1) else ((dE r.2.1 (r.2.2.1,((0:Int),((0:Int),((0:Int),((0:Int),()))))))).bind fun r14=>some (true,r14)):
  Ok ((bif (!(decide (at_<(0:Int)))) then some ((decide ((16:Int)≤(IntKind.wrap .i64 ((IntKind.wrap .i64 (w.2.1 - at_)) - (1:Int))))),(w,o)) else some (true,(w,o))).bind f) (XJ ns nt last ks k):=by
 have hl:=h.fl.len
 have hne8:k≠8:=by omega
 by_cases hks:ks=[]
 ·have e:at_= -1:=by rw [ha,if_pos hks]
  subst e
  refine Ok.of (k:=(false,w)) (by rw [show (decide ((-1:Int)<0))=true from rfl];show f _=_;rw [hf];rfl) ⟨fun h=>(by cases h),fun _=>?_⟩
  unfold cO
  rw [if_neg hne8,if_pos hks]
 ·have e:at_=0:=by rw [ha,if_neg hks]
  subst e
  have hp:0<ks.length:=List.length_pos_iff.2 hks
  have e1:IntKind.wrap .i64 (IntKind.wrap .i64 (w.2.1 - 0) - 1)=(ks.length:Int) - 1:=by
   rw [h.dp,wrap64 (x:=(ks.length:Int) - 0) (by omega) (by omega),wrap64 (by omega) (by omega)];omega
  rw [e1]
  show Ok (f (decide ((16:Int)≤(ks.length:Int) - 1),(w,o))) _
  rw [hf]
  have hnx:cO ks k=if ks.length≤16 then some (ks++[k]) else none:=by
   unfold cO
   rw [if_neg hne8,if_neg hks,if_neg (by omega)]
   rcases hn with rfl | hn
   ·rw [if_pos rfl]
   ·by_cases h2:k=2
    ·rw [if_pos h2,h2]
    ·rw [if_neg h2,if_pos (by omega)]
     by_cases h16:ks.length≤16
     ·rw [if_pos ⟨hn,h16⟩,if_pos h16]
     ·rw [if_neg fun h=>h16 h.2,if_neg h16]
  refine Ok.ifs (fun h16=>Ok.some ⟨fun h=>(by cases h),fun _=>?_⟩) fun h16=>?_
  ·rw [hnx,if_neg (by omega)]
  ·have h16':ks.length≤16:=by omega
   subst ho
   refine Ok.bind (Lp h (h.fl.cons hks hk h16')) fun r hr=>Ok.some ⟨fun _=>⟨_,?_,hr⟩,fun h=>(by cases h)⟩
   rw [hnx,if_pos h16']
theorem Lu (h:WI ns nt last ks w) {o:mF} {k:Int} (hk:k=3∨k=4) {at_:Int} (ha:at_=if ks=[] then -1 else 0):
  Ok (aG (σ:=Int×(Wk×mF)) (κ:=(Wk×mF)⊕(Bool×Wk)) (fun z4=>
    bif (decide (z4.1<z4.2.1.2.1)) then ((Go.Lf.lG (26:Nat) z4.1)).bind fun r5=>
    ((Go.Lf.nth (Go.Lf.kD dP (26:Nat) z4.2.1.1) r5)).bind fun r6=>
    (bif (!(decide ((r6.1:Int)=(3:Int)))) then some ((decide ((r6.1:Int)=(4:Int))),z4.2)
     else some (true,z4.2)).bind fun r7=>
    bif r7.1 then some (.inr (.inr (false,r7.2.1)))
    else some (.inl ((Go.IntKind.wrap .i64 (z4.1+(1:Int))),r7.2))
    else some (.inr (.inl z4.2))) ((Max.max at_ (0:Int)),(w,o))) (fun d=>(d= .inl (w,o)∧ ∀ j∈ks,j≠3∧j≠4)∨(d= .inr (false,w)∧cO ks k=none)):=by
 have hl:=h.fl.len
 have e0:Max.max at_ (0:Int)=0:=by
  rw [ha]
  split<;>rfl
 rw [e0]
 refine Ok.loop (fun n (z:Int×(Wk×mF))=> ∃ i:Nat,z=((i:Int),(w,o))∧i+n=ks.length∧ ∀ j∈ks.take i,j≠3∧j≠4) (fun n z hz=>?_) ks.length _ (by omega) ⟨0,rfl,by omega,by simp⟩
 obtain ⟨i,rfl,hi,hj⟩:=hz
 dsimp only
 rw [h.dp]
 refine Ok.ifs (fun hlt=>?_) fun hge=>Ok.inr ?_
 ·have hlt:(i:Int)<(ks.length:Int):=hlt
  have hik:i<ks.length:=by omega
  obtain ⟨y,hy,hyk⟩:=h.ar i _ (List.getElem?_eq_getElem hik)
  refine Ok.bind (Ok.DK (n:=26) (i:=i) (by omega)) fun j hj'=>?_
  subst hj'
  refine Ok.bind (Q:=(· =y)) (Ok.of hy rfl) fun y' hy'=>?_
  subst hy'
  refine Ok.bind (Q:=fun q=>q.2=(w,o)∧(q.1=true↔(y'.1=3∨y'.1=4))) ?_ fun q hq=>?_
  ·cases h3:decide (y'.1=3) with
   | true=>exact Ok.some ⟨rfl,fun _=> .inl (of_decide_eq_true h3),fun _=>rfl⟩
   | false=>exact Ok.some ⟨rfl,fun h=> .inr (of_decide_eq_true h),fun h=>decide_eq_true (h.resolve_left (of_decide_eq_false h3))⟩
  ·obtain ⟨b,q2⟩:=q
   obtain ⟨hq1,hq2⟩:=hq
   dsimp only at hq1 hq2 ⊢
   subst hq1
   refine Ok.cond (fun hb=>Ok.inr (.inr ⟨rfl,?_⟩)) fun hb=>Ok.inl ⟨n - 1,by omega,i+1,by rw [aN (by omega)],by omega,fun j hj'=>?_⟩
   ·have hm:ks[i]∈ks:=List.getElem_mem hik
    have h34:=hq2.1 hb
    rw [hyk] at h34
    unfold cO
    rw [if_neg (by omega),if_neg (fun e=>by rw [e] at hik;simp at hik),if_neg (by omega),if_neg (by omega),if_pos hk,if_neg fun h=>by have:=h.1 _ hm;omega]
   ·rw [List.take_add_one,List.getElem?_eq_getElem hik] at hj'
    rcases List.mem_append.1 hj' with hj' | hj'
    ·exact hj j hj'
    ·rw [show j=ks[i] by simpa using hj', ← hyk]
     have: ¬ (y'.1=3∨y'.1=4):=fun h=>by rw [hq2.2 h] at hb;cases hb
     omega
 ·have hge: ¬ (i:Int)<(ks.length:Int):=hge
  rw [List.take_of_length_le (by omega)] at hj
  exact .inl ⟨rfl,hj⟩
theorem QK (h:WI ns nt last ks w) {o:mF} (hk:1≤o.1∧o.1≤9):Ok (gZ w o) (XJ ns nt last ks o.1):=by
 obtain ⟨k,N,T,W,u⟩:=o
 dsimp only at hk
 have hl:=h.fl.len
 unfold gZ
 rw [RU h,Option.bind_some]
 generalize hat:(if ks=[] then (-1:Int) else 0)=at_
 have hat0:(0≤at_)↔ks≠[]:=by
  rw [← hat]
  by_cases hn:ks=[]
  ·rw [if_pos hn];simp [hn]
  ·rw [if_neg hn];simp [hn]
 have hcase:k=1∨k=2∨k=3∨k=4∨k=5∨k=6∨k=7∨k=8∨k=9:=by omega
 have htxt: ∀ k,k=1∨k=6∨k=7→XJ ns nt last ks k (decide (0≤at_),w):=fun k hk=>by
  refine ⟨fun h1=>⟨ks,?_,h⟩,fun h1=>?_⟩
  ·have h1:=hat0.1 (of_decide_eq_true h1)
   unfold cO
   rw [if_neg (by omega),if_neg h1,if_pos hk]
  ·have h1:ks=[]:=Classical.byContradiction fun hn=>(of_decide_eq_false h1) (hat0.2 hn)
   unfold cO
   rw [if_neg (by omega),if_pos h1]
 rcases hcase with rfl | rfl | rfl | rfl | rfl | rfl | rfl | rfl | rfl
 ·exact Ok.of rfl (htxt 1 (by omega))
 ·exact Ky h (.inl rfl) rfl (.inl rfl) hat.symm fun r=>rfl
 ·refine Ok.bind (Q:=Nx (fun a=>a=(w,((3:Int),(N,(T,(W,u)))))∧ ∀ j∈ks,j≠3∧j≠4) (fun b=>b= .inr (.inr (.inr (false,w)))∧cO ks 3=none)) ?_ fun d hd=>?_
  ·refine Ok.bind (Q:=(· =(false,(w,((3:Int),(N,(T,(W,u))))))) ) (Ok.of rfl rfl) fun r2 h2=>?_
   subst h2
   refine Ok.cond (fun h=>by cases h) fun _=>?_
   refine Ok.bind (Q:=(· =(true,(w,((3:Int),(N,(T,(W,u))))))) ) (Ok.of rfl rfl) fun r3 h3=>?_
   subst h3
   refine Ok.cond (fun _=>?_) fun h=>(by cases h)
   refine Ok.bind (Lu h (k:=3) (by omega) hat.symm) fun d hd=>?_
   rcases hd with ⟨rfl,hj⟩ | ⟨rfl,hj⟩
   ·exact Ok.some ⟨rfl,hj⟩
   ·exact Ok.some ⟨rfl,hj⟩
  ·cases d with
   | inl a=>
    obtain ⟨rfl,hj⟩:=hd
    exact Ky h (by omega) rfl (.inr hj) hat.symm fun r=>rfl
   | inr b=>
    obtain ⟨rfl,hj⟩:=hd
    exact Ok.some ⟨fun h=>(by cases h),fun _=>hj⟩
 ·refine Ok.bind (Q:=Nx (fun a=>a=(w,((4:Int),(N,(T,(W,u)))))∧ ∀ j∈ks,j≠3∧j≠4) (fun b=>b= .inr (.inr (.inr (false,w)))∧cO ks 4=none)) ?_ fun d hd=>?_
  ·refine Ok.bind (Q:=(· =(false,(w,((4:Int),(N,(T,(W,u))))))) ) (Ok.of rfl rfl) fun r2 h2=>?_
   subst h2
   refine Ok.cond (fun h=>by cases h) fun _=>?_
   refine Ok.bind (Q:=(· =(true,(w,((4:Int),(N,(T,(W,u))))))) ) (Ok.of rfl rfl) fun r3 h3=>?_
   subst h3
   refine Ok.cond (fun _=>?_) fun h=>(by cases h)
   refine Ok.bind (Lu h (k:=4) (by omega) hat.symm) fun d hd=>?_
   rcases hd with ⟨rfl,hj⟩ | ⟨rfl,hj⟩
   ·exact Ok.some ⟨rfl,hj⟩
   ·exact Ok.some ⟨rfl,hj⟩
  ·cases d with
   | inl a=>
    obtain ⟨rfl,hj⟩:=hd
    exact Ky h (by omega) rfl (.inr hj) hat.symm fun r=>rfl
   | inr b=>
    obtain ⟨rfl,hj⟩:=hd
    exact Ok.some ⟨fun h=>(by cases h),fun _=>hj⟩
 ·by_cases hks:ks=[]
  ·have e:at_= -1:=by rw [← hat,if_pos hks]
   subst e
   refine Ok.of (k:=(false,w)) rfl ⟨fun h=>(by cases h),fun _=>?_⟩
   unfold cO
   rw [if_neg (by omega),if_pos hks]
  ·have e:at_=0:=by rw [← hat,if_neg hks]
   subst e
   have hp:0<ks.length:=List.length_pos_iff.2 hks
   have e1:IntKind.wrap .i64 (IntKind.wrap .i64 (w.2.1 - 0) - 1)=(ks.length:Int) - 1:=by
    rw [h.dp,wrap64 (x:=(ks.length:Int) - 0) (by omega) (by omega),wrap64 (by omega) (by omega)];omega
   have hnx:cO ks 5=if 2≤ks.length then some ks.dropLast else none:=by
    unfold cO
    rw [if_neg (by omega),if_neg hks,if_neg (by omega),if_neg (by omega),if_neg (by omega),if_pos rfl]
   show Ok (bif decide (IntKind.wrap .i64 (IntKind.wrap .i64 (w.2.1 - 0) - 1)<(1:Int)) then some (false,w) else some (true,(w.1,(IntKind.wrap .i64 (w.2.1 - 1),w.2.2)))) _
   rw [e1]
   refine Ok.ifs (fun hc=>Ok.some ⟨fun h=>(by cases h),fun _=>?_⟩) fun hc=>Ok.some ⟨fun _=>⟨_,?_,h.pop hp (h.fl.drop (by omega))⟩,fun h=>(by cases h)⟩
   ·rw [hnx,if_neg (by omega)]
   ·rw [hnx,if_pos (by omega)]
 ·exact Ok.of rfl (htxt 6 (by omega))
 ·exact Ok.of rfl (htxt 7 (by omega))
 ·by_cases hks:ks=[]
  ·have e:at_= -1:=by rw [← hat,if_pos hks]
   subst e hks
   show Ok (((gW w ((8:Int),(N,(T,(W,u))))).bind fun r30=>some r30).bind fun r31=>some r31) _
   unfold gW
   rw [OA h,Option.bind_some]
   refine Ok.ends (Ok.ends (Ok.bind (Q:=Nx (WI ns nt last [8]) (fun _=>False)) ?_ fun d hd=>?_))
   ·exact Ok.bind (Lp h (o:=((8:Int),((0:Int),((0:Int),((0:Int),((0:Int),())))))) (.inr ⟨[],rfl,by simp,by simp⟩)) fun r hr=>Ok.inl hr
   ·cases d with
    | inl a=>exact Ok.some ⟨fun _=>⟨[8],rfl,hd⟩,fun h=>(by cases h)⟩
    | inr b=>exact hd.elim
  ·have e:at_=0:=by rw [← hat,if_neg hks]
   subst e
   refine Ok.of (k:=(false,w)) rfl ⟨fun h=>(by cases h),fun _=>?_⟩
   unfold cO
   rw [if_pos rfl,if_neg hks]
 ·by_cases hks:ks=[]
  ·have e:at_= -1:=by rw [← hat,if_pos hks]
   subst e
   refine Ok.of (k:=(false,w)) rfl ⟨fun h=>(by cases h),fun _=>?_⟩
   unfold cO
   rw [if_neg (by omega),if_pos hks]
  ·have e:at_=0:=by rw [← hat,if_neg hks]
   subst e
   have hp:0<ks.length:=List.length_pos_iff.2 hks
   have e1:IntKind.wrap .i64 (IntKind.wrap .i64 (w.2.1 - 0) - 1)=(ks.length:Int) - 1:=by
    rw [h.dp,wrap64 (x:=(ks.length:Int) - 0) (by omega) (by omega),wrap64 (by omega) (by omega)];omega
   have hnx:cO ks 9=if ks.length=1 then some [] else none:=by
    unfold cO
    rw [if_neg (by omega),if_neg hks,if_neg (by omega),if_neg (by omega),if_neg (by omega),if_neg (by omega),if_pos rfl]
   show Ok (bif decide ((0:Int)<IntKind.wrap .i64 (IntKind.wrap .i64 (w.2.1 - 0) - 1)) then some (false,w) else _) _
   rw [e1]
   refine Ok.ifs (fun hc=>Ok.some ⟨fun h=>(by cases h),fun _=>?_⟩) fun hc=>?_
   ·rw [hnx,if_neg (by omega)]
   ·have h1:ks.length=1:=by omega
    have hd0:ks.dropLast=[]:=List.eq_nil_of_length_eq_zero (by rw [List.length_dropLast];omega)
    have hp':=h.pop hp (by rw [hd0];exact .inl rfl)
    rw [hd0] at hp'
    refine Ok.bind (Q:=WI ns nt last []) (Ok.bind (Ok.of (Sk hp' 12) (Q:=fun r=>r=(false,(w.1,(IntKind.wrap .i64 (w.2.1 - 1),w.2.2)))) rfl) fun r hr=>by rw [hr];exact Ok.some hp') fun r hr=>Ok.some ⟨fun _=>⟨[],?_,hr⟩,fun h=>(by cases h)⟩
    rw [hnx,if_pos h1]
end
end Go.Fn
/- What the program calls plain, exactly. -/
namespace Go.Fn
open Go Go.Lf
noncomputable def Xx (s:List UInt8):Bool:=match qN s with | some b=>b | none=>false
theorem JQ (l:List UInt8) (hl:l.length≤1000000000):Ok (mX l) fun r=>r.2=true→ ∀ c∈sK l l.length 0,EB c=true:=by
 unfold mX
 refine Ok.bind (Q:=fun d=>(∃ b,d= .inl b∧b.2=false)∨d= .inr ()∧ ∀ c∈sK l l.length 0,EB c=true) ?_ fun d hd=>?_
 ·refine Ok.loop (fun k (z:List UInt8×Int)=> ∃ p:Nat,z=(l,(p:Int))∧p+k=l.length∧((∀ c∈sK l l.length p,EB c=true)→ ∀ c∈sK l l.length 0,EB c=true)) (fun k z hz=>?_) l.length _ (by omega) ⟨0,rfl,by omega,id⟩
  obtain ⟨p,rfl,hp,hc⟩:=hz
  refine Ok.ifs (fun hlt=>?_) fun hge=>Ok.inr (.inr ⟨rfl,hc ?_⟩)
  case refine_2=>
   have hge: ¬ (p:Int)<(l.length:Int):=hge
   rw [uG (by omega)];simp
  have hlt:(p:Int)<(l.length:Int):=hlt
  have hpl:p<l.length:=by omega
  obtain ⟨er,ew⟩:=G9 l p
  have hw1:=Lib.decodeL_width (l.drop p)
  have hw2:=uq l p hpl
  rw [Cs hpl] at hc
  have e:((l,(p:Int)+((Lib.decodeL (l.drop p)).2:Int)):List UInt8×Int)=(l,((p+(Lib.decodeL (l.drop p)).2:Nat):Int)):=by rw [Int.natCast_add]
  refine Ok.bind (Q:=fun r=>r.2=(l,((p+(Lib.decodeL (l.drop p)).2:Nat):Int))∧(r.1=false→EB (iF l p)=true)) ?_ fun r hr=>Ok.cond (fun _=>Ok.inr (.inl ⟨_,rfl,rfl⟩)) fun hf=>Ok.inl ⟨k - (Lib.decodeL (l.drop p)).2,by omega,_,hr.1,by omega,fun h=>hc fun c hc'=>?_⟩
  ·dsimp only
   rw [er,ew,Cz,Option.bind_some]
   have hR:(iF l p).1=((Lib.decodeL (l.drop p)).1:Int):=rfl
   cases hct:ctl ((Lib.decodeL (l.drop p)).1:Int) with
   | true=>exact Ok.some ⟨e,fun h=>(by cases h)⟩
   | false=>
    refine Ok.cond (fun _=>Ok.ifs (fun h6=>?_) fun h6=>Ok.some ⟨e,fun _=>?_⟩) fun h=>(by cases h)
    ·rw [bad_eq l p hpl]
     refine Ok.some ⟨e,fun h=>?_⟩
     have h:(iF l p).2.2.2.1=false:=h
     unfold EB
     rw [h,hR,hct];rfl
    ·have h6: ¬ ((Lib.decodeL (l.drop p)).1:Int)=65533:=h6
     have h7:(iF l p).2.2.2.1=false:=by
      show (decide ((Lib.decodeL (l.drop p)).1=65533) && decide ((Lib.decodeL (l.drop p)).2=1))=false
      rw [decide_eq_false (show ¬ (Lib.decodeL (l.drop p)).1=65533 by omega),Bool.false_and]
     unfold EB
     rw [h7,hR,hct];rfl
  ·rcases List.mem_cons.1 hc' with rfl | hc'
   ·exact hr.2 hf
   ·exact h c hc'
 ·rcases hd with ⟨b,rfl,hb⟩ | ⟨rfl,h⟩
  ·exact Ok.some fun h=>by rw [hb] at h;cases h
  ·exact Ok.some fun _=>h
theorem O_ (l:List UInt8) (hl:l.length≤1000000000):Ok (qN l) fun b=>b=Xx l∧(b=true→l≠[]∧ ∀ c∈sK l l.length 0,EB c=true)∧((l≠[]∧ ∀ c∈sK l l.length 0,EB c=true)→b=true):=by
 have key:Ok (qN l) fun b=>(b=true→l≠[]∧ ∀ c∈sK l l.length 0,EB c=true)∧((l≠[]∧ ∀ c∈sK l l.length 0,EB c=true)→b=true):=by
  unfold qN
  obtain ⟨r,hr,hq⟩:=JQ l hl
  rw [hr,Option.bind_some]
  refine Ok.ends (Ok.ifs (fun hn=>Ok.some ⟨fun h=>⟨hn,hq h⟩,fun h=>?_⟩) fun hn=>Ok.some ⟨fun h=>(by cases h),fun h=>absurd h.1 hn⟩)
  have:=Oc l hl h.2
  rw [hr] at this
  injection this with this
  rw [this]
 obtain ⟨b,hb,hq⟩:=key
 exact ⟨b,hb,by unfold Xx;rw [hb],hq⟩
end Go.Fn
/- ir.Check of operations without lists and tables, plainly: what passes, and why. -/
namespace Go.Fn
open Go Go.Lf
def Bd (ns nt last:Int) (o:mF):Prop:=
 o.2.2.2.1=[]∧((o.1=1∧o.2.1=0∧Xx o.2.2.1=true∧last≠1)∨(o.1=2∧0≤o.2.1∧o.2.1<ns∧o.2.2.1=[])∨((o.1=3∨o.1=4)∧0≤o.2.1∧o.2.1<nt∧o.2.2.1=[])∨
  (o.1=8∧ -1≤o.2.1∧o.2.1<ns∧o.2.2.1=[])∨((o.1=5∨o.1=6∨o.1=7∨o.1=9)∧o.2.1=0∧o.2.2.1=[]))
theorem Bd.kind {ns nt last:Int} {o:mF} (h:Bd ns nt last o):1≤o.1∧o.1≤9:=by
 obtain ⟨_,h | h | h | h | h⟩:=h<;>omega
theorem RA {ns nt last:Int} {ks:List Int} {w:Wk} (h:WI ns nt last ks w) {o:mF} (ho:o.1<10) (hT:o.2.2.1.length≤1000000000):Ok (kJ w o) fun r=>r.2=w∧(r.1=true↔Bd ns nt last o):=by
 obtain ⟨k,N,T,W,u⟩:=o
 dsimp only at ho hT
 have hW:(((W.length:Nat):Int)=0)↔W=[]:=by
  constructor
  ·intro h;exact List.eq_nil_of_length_eq_zero (by omega)
  ·intro h;rw [h];rfl
 obtain ⟨la,st,tp⟩:w.2.2.2.2.1=last∧w.2.2.1=ns∧w.2.2.2.1=nt:=⟨h.la,h.st,h.tp⟩
 unfold kJ
 refine Ok.bind (Q:=Nx (fun q=>q.2.2.2=w∧((q.2.2.1=true∧q.2.1=true∧q.1=true)↔Bd ns nt last (k,(N,(T,(W,u)))))) (fun q=>q.2=w∧q.1=false∧ ¬ Bd ns nt last (k,(N,(T,(W,u)))))) ?_ fun d hd=>?_
 ·have leaf: ∀ {a b c:Bool},((c=true∧b=true∧a=true)↔Bd ns nt last (k,(N,(T,(W,u)))))→Ok (some (.inl (a,(b,(c,w)))):Option ((Bool×(Bool×(Bool×Wk)))⊕(Bool×Wk))) (Nx (fun q=>q.2.2.2=w∧((q.2.2.1=true∧q.2.1=true∧q.1=true)↔Bd ns nt last (k,(N,(T,(W,u)))))) (fun q=>q.2=w∧q.1=false∧ ¬ Bd ns nt last (k,(N,(T,(W,u)))))):=fun h=>Ok.inl ⟨rfl,h⟩
  refine Ok.ifs (fun hk=>?_) fun hk1=>Ok.ifs (fun hk=>?_) fun hk2=>?_
  ·have hk:k=1:=hk
   obtain ⟨b,hb,he,_⟩:=O_ T hT
   rw [show qN (k,(N,(T,(W,u)))).2.2.1=some b from hb,Option.bind_some]
   refine Ok.cond (fun hbt=>leaf ?_) fun hbf=>leaf ?_
   ·simp only [Bd,decide_eq_true_iff,hW,la, ← he,hbt,hk]
    constructor
    ·rintro ⟨h1,h2,h3⟩;exact ⟨h3, .inl ⟨trivial,h1,trivial,h2⟩⟩
    ·rintro ⟨h3,⟨_,h1,_,h2⟩ | h | h | h | h⟩
     ·exact ⟨h1,h2,h3⟩
     all_goals omega
   ·simp only [Bd,decide_eq_true_iff,hW, ← he,hbf,hk]
    constructor
    ·rintro ⟨_,h2,_⟩;cases h2
    ·rintro ⟨_,⟨_,_,h,_⟩ | h | h | h | h⟩
     ·cases h
     all_goals omega
  ·have hk:k=2:=hk
   refine Ok.ifs (fun h0=>leaf ?_) fun h0=>leaf ?_
   ·have h0:0≤N:=h0
    simp only [Bd,decide_eq_true_iff,hW,st,hk]
    constructor
    ·rintro ⟨h1,h2,h3⟩;exact ⟨h3, .inr (.inl ⟨trivial,h0,h1,h2⟩)⟩
    ·rintro ⟨h3,h | ⟨_,_,h1,h2⟩ | h | h | h⟩
     ·omega
     ·exact ⟨h1,h2,h3⟩
     all_goals omega
   ·have h0: ¬ 0≤N:=h0
    simp only [Bd,decide_eq_true_iff,hW,hk]
    constructor
    ·rintro ⟨h1,_,_⟩;cases h1
    ·rintro ⟨_,h | h | h | h | h⟩<;>omega
  have hk1: ¬ k=1:=hk1
  have hk2: ¬ k=2:=hk2
  refine Ok.bind (Q:=fun r=>r.2=(w,(k,(N,(T,(W,u)))))∧(r.1=true↔(k=3∨k=4))) (Ok.ifs (fun h3=>Ok.some ⟨rfl,?_⟩) fun h3=>Ok.some ⟨rfl,?_⟩) fun r2 hr2=>?_
  ·have h3:k=3:=h3
   exact ⟨fun _=> .inl h3,fun _=>decide_eq_true h3⟩
  ·have h3: ¬ k=3:=h3
   exact ⟨fun h=> .inr (of_decide_eq_true h),fun h=>decide_eq_true (h.resolve_left h3)⟩
  obtain ⟨b2,r2⟩:=r2
  obtain ⟨hr2,hb2⟩:=hr2
  dsimp only at hr2 hb2 ⊢
  subst hr2
  refine Ok.cond (fun hb=>?_) fun hb=>?_
  ·have hk:=hb2.1 hb
   refine Ok.ifs (fun h0=>leaf ?_) fun h0=>leaf ?_
   ·have h0:0≤N:=h0
    simp only [Bd,decide_eq_true_iff,hW,tp]
    constructor
    ·rintro ⟨h1,h2,h3⟩;exact ⟨h3, .inr (.inr (.inl ⟨hk,h0,h1,h2⟩))⟩
    ·rintro ⟨h3,h | h | ⟨_,_,h1,h2⟩ | h | h⟩
     ·omega
     ·omega
     ·exact ⟨h1,h2,h3⟩
     all_goals omega
   ·have h0: ¬ 0≤N:=h0
    simp only [Bd,decide_eq_true_iff,hW]
    constructor
    ·rintro ⟨h1,_,_⟩;cases h1
    ·rintro ⟨_,h | h | h | h | h⟩<;>omega
  have hk34: ¬ (k=3∨k=4):=fun h=>by rw [hb2.2 h] at hb;cases hb
  refine Ok.ifs (fun hk=>?_) fun hk8=>Ok.ifs (fun hk=>?_) fun hk10=>Ok.ifs (fun hk=>?_) fun hk12=>?_
  ·have hk:k=8:=hk
   refine Ok.ifs (fun h0=>leaf ?_) fun h0=>leaf ?_
   ·have h0: -1≤N:=h0
    simp only [Bd,decide_eq_true_iff,hW,st]
    constructor
    ·rintro ⟨h1,h2,h3⟩;exact ⟨h3, .inr (.inr (.inr (.inl ⟨hk,h0,h1,h2⟩)))⟩
    ·rintro ⟨h3,h | h | h | ⟨_,_,h1,h2⟩ | h⟩
     ·omega
     ·omega
     ·omega
     ·exact ⟨h1,h2,h3⟩
     ·omega
   ·have h0: ¬ -1≤N:=h0
    simp only [Bd,decide_eq_true_iff,hW]
    constructor
    ·rintro ⟨h1,_,_⟩;cases h1
    ·rintro ⟨_,h | h | h | h | h⟩<;>omega
  ·have hk:k=10:=hk
   omega
  ·have hk:k=12:=hk
   omega
  have hk8: ¬ k=8:=hk8
  refine Ok.bind (Q:=fun r=>r.2=w∧(r.1=true↔(k=5∨k=6∨k=7∨k=9))) ?_ fun r8 hr8=>?_
  ·have yes: ∀ j:Int,k=j→(j=5∨j=6∨j=7∨j=9)→Ok (some (decide (k=j),w)) fun r=>r.2=w∧(r.1=true↔(k=5∨k=6∨k=7∨k=9)):=fun j hj hj2=>Ok.some ⟨rfl,fun _=>by rw [hj];exact hj2,fun _=>decide_eq_true hj⟩
   refine Ok.ifs (fun h5=>yes 5 h5 (by omega)) fun h5=>Ok.ifs (fun h6=>yes 6 h6 (by omega)) fun h6=>Ok.ifs (fun h7=>yes 7 h7 (by omega)) fun h7=>Ok.ifs (fun h9=>yes 9 h9 (by omega)) fun h9=>Ok.ifs (fun h=>absurd (show k=11 from h) (by omega)) fun _=>Ok.ifs (fun h=>absurd (show k=13 from h) (by omega)) fun _=>Ok.some ⟨rfl,fun h=>absurd (show k=14 from of_decide_eq_true h) (by omega),fun h=>?_⟩
   have h5: ¬ k=5:=h5
   have h6: ¬ k=6:=h6
   have h7: ¬ k=7:=h7
   have h9: ¬ k=9:=h9
   omega
  ·obtain ⟨b8,r8⟩:=r8
   obtain ⟨hr8,hb8⟩:=hr8
   dsimp only at hr8 hb8 ⊢
   subst hr8
   refine Ok.cond (fun hb=>leaf ?_) fun hb=>Ok.inr ⟨rfl,rfl,?_⟩
   ·have hk:=hb8.1 hb
    simp only [Bd,decide_eq_true_iff,hW]
    constructor
    ·rintro ⟨h1,h2,h3⟩;exact ⟨h3, .inr (.inr (.inr (.inr ⟨hk,h1,h2⟩)))⟩
    ·rintro ⟨h3,h | h | h | h | ⟨_,h1,h2⟩⟩
     ·omega
     ·omega
     ·omega
     ·omega
     ·exact ⟨h1,h2,h3⟩
   ·have hkn: ¬ (k=5∨k=6∨k=7∨k=9):=fun h=>by rw [hb8.2 h] at hb;cases hb
    rintro ⟨_,h | h | h | h | h⟩
    ·exact hk1 h.1
    ·exact hk2 h.1
    ·exact hk34 h.1
    ·exact hk8 h.1
    ·exact hkn h.1
 ·cases d with
  | inl a=>
   obtain ⟨h1,h2⟩:=hd
   obtain ⟨b1,b2,b3,w'⟩:=a
   dsimp only at h1 h2
   subst h1
   refine Ok.ends (Ok.cond (fun h3=>Ok.cond (fun h4=>Ok.some ⟨rfl,?_⟩) fun h4=>Ok.some ⟨rfl,?_⟩) fun h3=>Ok.some ⟨rfl,?_⟩)
   ·rw [← h2]
    exact ⟨fun h=>⟨h3,h4,h⟩,fun h=>h.2.2⟩
   ·rw [← h2]
    exact ⟨fun h=>(by cases h),fun h=>by have h5:b2=true:=h.2.1;have h4:b2=false:=h4;rw [h5] at h4;cases h4⟩
   ·rw [← h2]
    exact ⟨fun h=>(by cases h),fun h=>by have h5:b3=true:=h.1;have h3:b3=false:=h3;rw [h5] at h3;cases h3⟩
  | inr b=>exact Ok.some ⟨hd.1,fun h=>(by rw [hd.2.1] at h;cases h),fun h=>absurd h hd.2.2⟩
def xE (l:List mF):Nat→List Int
 | 0=>[]
 | i+1=>match l[i]? with
  | some o=>(cO (xE l i) o.1).getD []
  | none=>xE l i
def lW (l:List mF):Nat→Int
 | 0=>0
 | i+1=>match l[i]? with
  | some o=>o.1
  | none=>0
def VW (ns nt:Int) (l:List mF):Prop:=(∀ i o,l[i]? =some o→Bd ns nt (lW l i) o∧cO (xE l i) o.1=some (xE l (i+1)))∧xE l l.length=[]
def gY (l:List mF):Int:=(l.map fun o=>(o.2.2.1.length:Int)).sum
theorem qm {l:List mF} {i:Nat} {o:mF} (h:l[i]? =some o):gY (l.take (i+1))=gY (l.take i)+o.2.2.1.length:=by
 unfold gY
 rw [List.take_add_one,h]
 simp
theorem wP {l:List mF} (i:Nat):gY (l.take i)≤gY l:=by
 have h1:gY l=gY (l.take i)+gY (l.drop i):=by
  unfold gY
  rw [← List.sum_append, ← List.map_append,List.take_append_drop]
 have h2: ∀ m:List mF,0≤gY m:=fun m=>by
  unfold gY
  induction m with
  | nil=>simp
  | cons a r ih=>simp only [List.map_cons,List.sum_cons];omega
 have:=h2 (l.drop i)
 omega
theorem wK {l:List mF} {o:mF} (ho:o∈l):(o.2.2.1.length:Int)≤gY l:=by
 obtain ⟨i,hi,rfl⟩:=List.getElem_of_mem ho
 have h1:=qm (List.getElem?_eq_getElem hi)
 have h2:=wP (l:=l) (i+1)
 have h3:0≤gY (l.take i):=by
  unfold gY
  generalize l.take i=m
  induction m with
  | nil=>simp
  | cons a r ih=>simp only [List.map_cons,List.sum_cons];omega
 omega
theorem TK (ns nt:Int) {w:Wk} (h1:w.2.1=0) (h2:w.2.2.1=ns) (h3:w.2.2.2.1=nt) (h4:w.2.2.2.2.1=0):WI ns nt 0 [] w:=⟨h1,h2,h3,h4,fun i k h=>by simp at h, .inl rfl⟩
theorem KP {l:List mF} {ns nt:Int} (hl:l.length≤3000) (hf: ∀ o∈l,o.1<10) (hT: ∀ o∈l,o.2.2.1.length≤140737488355328):
  Ok (zh l ns nt) fun r=>(r.2=0→VW ns nt l∧gY l≤16384)∧(VW ns nt l→gY l≤16384→r.2=0):=by
 unfold zh
 refine Ok.bind (Q:=fun r=>r=min (gY l) 16385) ?_ fun r3 hr3=>?_
 ·refine Ok.range l (by omega) (fun i z=>0≤z∧z=min (gY (l.take i)) 16385) (fun i o z ho hz=>?_) (fun z hz=>?_) ⟨Int.le_refl _,rfl⟩
  ·have hlt:=a_ ho
   refine Ok.yes (by show (i:Int)<_;omega) (Ok.bind (Ok.bH ho) fun y hy=>?_)
   subst hy
   have hTo:=hT o (fQ ho)
   have e:IntKind.wrap .i64 (z+((o.2.2.1.length:Nat):Int))=z+o.2.2.1.length:=wrap64 (by omega) (by omega)
   refine Ok.inl ⟨aN (by omega),?_⟩
   dsimp only
   rw [e,qm ho]
   exact ⟨by omega,by omega⟩
  ·refine Ok.no (by show ¬ ((l.length:Int)<_);omega) (Ok.inr ?_)
   have:=hz.2
   rw [List.take_length] at this
   exact this
 refine Ok.bind (Q:=fun b=>b=false↔gY l≤16384) ?_ fun b hb=>Ok.cond (fun h=>Ok.some ⟨fun h=>(by cases h),fun _ ht=>?_⟩) fun hbf=>?_
 ·rw [show decide ((65536:Int)<((l.length:Nat):Int))=false from decide_eq_false (by omega)]
  refine Ok.some ?_
  rw [decide_eq_false_iff_not,hr3];omega
 ·rw [hb.2 ht] at h;cases h
 have htot:=hb.1 hbf
 refine Ok.bind (Q:=fun d=>(∃ w,d= .inl w∧WI ns nt (lW l l.length) (xE l l.length) w∧ ∀ i o,l[i]? =some o→Bd ns nt (lW l i) o∧cO (xE l i) o.1=some (xE l (i+1)))∨(∃ b,d= .inr b∧b.2≠0)∧ ¬ VW ns nt l) ?_ fun d hd=>?_
 ·refine Ok.range l (by omega) (fun i w=>WI ns nt (lW l i) (xE l i) w∧ ∀ j o,j<i→l[j]? =some o→Bd ns nt (lW l j) o∧cO (xE l j) o.1=some (xE l (j+1))) (fun i o w ho hw=>?_) (fun w hw=>?_) ⟨TK ns nt rfl rfl rfl rfl,fun j o hj=>by omega⟩
  ·have hlt:=a_ ho
   obtain ⟨hw1,hw2⟩:=hw
   refine Ok.yes (by show (i:Int)<_;omega) (Ok.bind (Ok.bH ho) fun y hy=>?_)
   subst hy
   have hk:xE l (i+1)=(cO (xE l i) o.1).getD []:=by show (match l[i]? with | some o=>_ | none=>_)=_;rw [ho]
   have hlo:lW l (i+1)=o.1:=by show (match l[i]? with | some o=>_ | none=>_)=_;rw [ho]
   refine Ok.bind (Q:=fun q=>q.2.2=o∧((q.1=false∧(Bd ns nt (lW l i) o∧cO (xE l i) o.1=some (xE l (i+1)))∧WI ns nt (lW l i) (xE l (i+1)) q.2.1)∨(q.1=true∧ ¬ (Bd ns nt (lW l i) o∧cO (xE l i) o.1=some (xE l (i+1)))))) ?_ fun q hq=>?_
   ·refine Ok.bind (RA hw1 (hf o (fQ ho)) (by have:=wK (fQ ho);omega)) fun r7 hr7=>?_
    obtain ⟨b7,w7⟩:=r7
    obtain ⟨he7,hb7⟩:=hr7
    dsimp only at he7 hb7 ⊢
    subst he7
    cases b7 with
    | false=>exact Ok.some ⟨rfl, .inr ⟨rfl,fun h=>by have:=hb7.2 h.1;cases this⟩⟩
    | true=>
     have hF:=hb7.1 rfl
     refine Ok.bind (QK hw1 hF.kind) fun r8 hr8=>Ok.some ⟨rfl,?_⟩
     obtain ⟨b8,w8⟩:=r8
     obtain ⟨hp1,hp2⟩:=hr8
     cases b8 with
     | true=>
      obtain ⟨ks',hk1,hk2⟩:=hp1 rfl
      rw [hk,hk1]
      exact .inl ⟨rfl,⟨hF,rfl⟩,hk2⟩
     | false=>
      have:=hp2 rfl
      exact .inr ⟨rfl,fun h=>by rw [this] at h;cases h.2⟩
   ·obtain ⟨b,w',o'⟩:=q
    obtain ⟨hq1,hq2⟩:=hq
    dsimp only at hq1 hq2
    subst hq1
    rcases hq2 with ⟨rfl,hv,hwi⟩ | ⟨rfl,hn⟩
    ·refine Ok.inl ⟨aN (by omega),?_,fun j o2 hj ho2=>?_⟩
     ·rw [hlo]
      exact ⟨hwi.dp,hwi.st,hwi.tp,rfl,hwi.ar,hwi.fl⟩
     ·by_cases hji:j<i
      ·exact hw2 j o2 hji ho2
      ·have:j=i:=by omega
       subst this
       rw [ho] at ho2
       injection ho2 with ho2
       subst ho2
       exact hv
    ·exact Ok.inr (.inr ⟨⟨_,rfl,(by decide:(110:Int)≠0)⟩,fun h=>hn (h.1 i o' ho)⟩)
  ·exact Ok.no (by show ¬ ((l.length:Int)<_);omega) (Ok.inr (.inl ⟨w,rfl,hw.1,fun i o ho=>hw.2 i o (a_ ho) ho⟩))
 ·rcases hd with ⟨w,rfl,hw,hv⟩ | ⟨⟨b,rfl,hb⟩,hn⟩
  ·refine Ok.ifs (fun hd0=>Ok.some ⟨fun h=>(by cases h),fun h _=>?_⟩) fun hd0=>Ok.some ⟨fun _=>⟨⟨hv,?_⟩,htot⟩,fun _ _=>rfl⟩
   ·have hd0:(0:Int)<w.2.1:=hd0
    rw [hw.dp,h.2] at hd0
    simp at hd0
   ·have hd0: ¬ (0:Int)<w.2.1:=hd0
    rw [hw.dp] at hd0
    exact List.eq_nil_of_length_eq_zero (by omega)
  ·exact Ok.some ⟨fun h=>absurd h hb,fun h _=>absurd h hn⟩
end Go.Fn
/- Lines of a table, plainly: what is told is what flows, but for blanks; how many lines there are. -/
namespace Go.Fn
open Go Go.Lf
def sg (l:List Gl):List Gl:=l.filter fun g=>decide (g.1≠[32])
theorem yI (l m:List Gl):sg (l++m)=sg l++sg m:=List.filter_append ..
theorem Da {l:List Gl} (h: ∀ g∈l,g.1=[32]):sg l=[]:=by
 unfold sg
 rw [List.filter_eq_nil_iff]
 intro g hg
 simp [h g hg]
def told (f:Ft):List Gl:=f.2.1.flatten++f.2.2.1
abbrev Ln:Type:=Nat×(Int×Int)
def Eu (W:Int) (s:Ln) (ws:Int):Ln:=if ws=0 then s else if s.2.1+s.2.2+ws≤W then (s.1,(s.2.1+s.2.2+ws,0)) else (s.1+1,(ws,0))
def Yw (s:Ln):Ln:=if 0<s.2.1∧s.2.2=0 then (s.1,(s.2.1,1)) else s
def Dp (W:Int) (c:Ln×Int) (g:Gl):Ln×Int:=if g.1=[32] then (Yw (Eu W c.1 c.2),0) else (c.1,c.2+g.2.1)
def GU (W:Int) (l:List Gl):Ln×Int:=l.foldl (Dp W) ((0,(0,0)),0)
def Rj (W:Int) (c:Ln×Int):Nat:=if 0<(Eu W c.1 c.2).2.1 then (Eu W c.1 c.2).1+1 else (Eu W c.1 c.2).1
def U7 (l:List Gl):Int:=l.foldl (fun n g=>if g.1=[32] then 0 else n+g.2.1) 0
theorem AB {W:Int} {l:List Gl} {i:Nat} {x:Gl} (h:l[i]? =some x):GU W (l.take (i+1))=Dp W (GU W (l.take i)) x:=by
 unfold GU
 rw [List.take_add_one,h,List.foldl_append];rfl
theorem Rb (W:Int) (l:List Gl):(GU W l).2=U7 l:=by
 have key: ∀ (l:List Gl) (c:Ln×Int),(l.foldl (Dp W) c).2=l.foldl (fun n g=>if g.1=[32] then 0 else n+g.2.1) c.2:=by
  intro l
  induction l with
  | nil=>intro c;rfl
  | cons g r ih=>
   intro c
   rw [List.foldl_cons,List.foldl_cons,ih]
   unfold Dp
   by_cases h:g.1=[32]
   ·rw [if_pos h,if_pos h]
   ·rw [if_neg h,if_neg h]
 exact key l _
theorem Ru {a:List Gl} (ha: ∀ g∈a,GW g) (k:Nat):bV (a.take k)≤bV a:=by
 have h1:bV a=bV (a.take k)+bV (a.drop k):=by rw [← lY,List.take_append_drop]
 have h2:=ny (a.drop k) fun g hg=>ha g (List.mem_of_mem_drop hg)
 omega
theorem FI.ZA {w:Int} {n:Nat} {f:Ft} (h:FI w n f):0<f.2.2.2.1↔0<f.2.2.1.length:=by
 have h1:=ny _ h.line.1
 rw [h.at_]
 omega
theorem DZ {w:Int} {n:Nat} {f:Ft} (h:FI w n f) (hn:n≤1000000000):Ok (aT f) fun f'=>f'.2.1=f.2.1++[f.2.2.1]∧f'.2.2.1=[]∧f'.2.2.2.1=0∧f'.2.2.2.2.1=[]:=by
 unfold aT
 have:=h.out
 refine Ok.bind (Ok.jk (by simp only [List.length_cons,List.length_nil];omega)) fun r hr=>Ok.some ?_
 subst hr
 exact ⟨rfl,rfl,rfl,rfl⟩
theorem zq {f f':Ft} (h:f'.2.1=f.2.1++[f.2.2.1]∧f'.2.2.1=[]∧f'.2.2.2.1=0∧f'.2.2.2.2.1=[]):told f'=told f:=by
 unfold told
 rw [h.1,h.2.1]
 simp
theorem put_eq {w:Int} {n:Nat} {f:Ft} {g:Gl} (h:FI w n f):Ok (bA f g) fun f'=>f'.2.1=f.2.1∧f'.2.2.1=f.2.2.1++[g]∧f'.2.2.2.2.1=f.2.2.2.2.1:=by
 unfold bA
 have h1:=h.line.len
 have h2:=h.hi
 refine Ok.bind (Ok.jk (by simp only [List.length_cons,List.length_nil];omega)) fun r hr=>Ok.some ?_
 subst hr
 exact ⟨rfl,rfl,rfl⟩
theorem H_ {f f':Ft} {g:Gl} (h:f'.2.1=f.2.1∧f'.2.2.1=f.2.2.1++[g]∧f'.2.2.2.2.1=f.2.2.2.2.1):told f'=told f++[g]:=by
 unfold told
 rw [h.1,h.2.1,List.append_assoc]
theorem QB {w:Int} {n:Nat} {f:Ft} {a:List Gl} (h:FI w n f) (hb: ∀ g∈f.2.2.2.2.1,g.1=[32]) (hlw:f.2.2.1=[]→f.2.2.2.2.1=[]) (ha: ∀ g∈a,GW g∧g.2.1≤w) (hne:a≠[]) (hn:n+a.length≤900000000):
  Ok (bZ f a) fun f'=>FI w (n+a.length+1) f'∧f'.2.2.2.2.1=[]∧sg (told f')=sg (told f)++sg a∧(bV a≤w→(f'.2.1.length,(f'.2.2.2.1,(0:Int)))=Eu w (f.2.1.length,(f.2.2.2.1,(f.2.2.2.2.1.length:Int))) (bV a)):=by
 unfold bZ
 have h2:=h.hi
 have h3:=h.pos
 have h4:=h.ws
 have hbd:=ny a fun g hg=>(ha g hg).1
 have hpos:0<bV a:=by
  have:a.length≠0:=fun e=>hne (List.eq_nil_of_length_eq_zero e)
  omega
 have hsb:=Da hb
 refine Ok.bind (L9 (by omega) fun g hg=>(ha g hg).1) fun r hr=>?_
 subst hr
 have e1:IntKind.wrap .i64 (IntKind.wrap .i64 (f.2.2.2.1+((f.2.2.2.2.1.length:Nat):Int))+bV a)=f.2.2.2.1+f.2.2.2.2.1.length+bV a:=by
  rw [wrap64 (x:=f.2.2.2.1+((f.2.2.2.2.1.length:Nat):Int)) (by omega) (by omega)];exact wrap64 (by omega) (by omega)
 simp only [e1,h.wd]
 refine Ok.ifs (fun hc=>?_) fun hc=>?_
 ·refine Ok.bind (Ok.jk (by omega)) fun r hr=>?_
  have hr2: ∀ g∈r,GW g:=fun g hg=>by
   rw [hr] at hg
   rcases List.mem_append.1 hg with hg | hg
   ·have:=h.w1 g hg
    unfold GW
    omega
   ·exact (ha g hg).1
  have hs1: ∀ l:List Gl,(∀ g∈l,g.2.1=1)→bV l=l.length:=fun l=>by
   induction l with
   | nil=>intro _;rfl
   | cons x t ih=>
    intro hx
    simp only [bV,List.length_cons]
    rw [ih fun g hg=>hx g (List.mem_cons_of_mem _ hg),hx x List.mem_cons_self]
    omega
  have hrs:bV r=f.2.2.2.2.1.length+bV a:=by rw [hr,lY,hs1 _ h.w1]
  have hrl:r.length=f.2.2.2.2.1.length+a.length:=by rw [hr,List.length_append]
  refine Ok.bind (Q:=fun f'=>(∃ u,FI w n (f'.1,(f'.2.1,(f'.2.2.1,(f'.2.2.2.1,([],u))))))∧f'.2.1=f.2.1∧f'.2.2.1=f.2.2.1++r) ?_ fun f' hf'=>Ok.some ?_
  ·refine Ok.range r (by omega) (fun i s=>s.1=r∧(∃ u,FI w n (s.2.1,(s.2.2.1,(s.2.2.2.1,(s.2.2.2.2.1,([],u))))))∧s.2.2.2.2.1+bV (r.drop i)≤w∧s.2.2.1=f.2.1∧s.2.2.2.1=f.2.2.1++r.take i) (fun i x s hx hs=>?_) (fun s hs=>?_) ⟨rfl,⟨(),by first | (have:=h.noW (u:=());rw [h.wd] at this;exact this) | exact h.noW⟩,?_,rfl,by simp⟩
   ·obtain ⟨hs1,⟨u,hs2⟩,hs3,hs4,hs5⟩:=hs
    have hlt:=a_ hx
    refine Ok.yes (by show (i:Int)<_;omega) (Ok.bind (Ok.DK (i:=i) (by rw [hs1];omega)) fun k hk=>?_)
    subst hk
    refine Ok.bind (Q:=(· =x)) (Ok.of (show nth s.1 i=_ by rw [hs1];exact hx) rfl) fun y hy=>?_
    subst hy
    have hp:=(zY (g:=y) hs2 (hr2 y (fQ hx)) (by
     have:=wJ hx
     have:=ny (r.drop (i+1)) fun g hg=>hr2 g (List.mem_of_mem_drop hg)
     show s.2.2.2.2.1+y.2.1≤w
     omega)).and (put_eq (g:=y) hs2)
    obtain ⟨f',hf',hq⟩:=hp
    unfold bA at hf'
    refine Ok.bind (Q:=fun q=>(∃ u,FI w n (q.1,(q.2.1,(q.2.2.1,(q.2.2.2.1,([],u))))))∧q.2.2.2.1=s.2.2.2.2.1+y.2.1∧q.2.1=s.2.2.1∧q.2.2.1=s.2.2.2.1++[y]) ?_ fun q hq=>Ok.inl ⟨aN (by omega),hs1,hq.1,?_,hq.2.2.1.trans hs4,?_⟩
    ·unfold iB
     obtain ⟨t,ht,he⟩:=Option.bind_eq_some_iff.1 hf'
     injection he with he
     subst he
     exact Ok.bind (Ok.of ht rfl) fun t' ht'=>Ok.some ⟨⟨_,by subst ht';exact hq.1.1⟩,hq.1.2.1,by subst ht';exact hq.2.1,by subst ht';exact hq.2.2.1⟩
    ·show q.2.2.2.1+bV (r.drop (i+1))≤w
     rw [hq.2.1]
     have:=wJ hx
     omega
    ·show q.2.2.1=_
     rw [hq.2.2.2,hs5,List.take_add_one,hx,List.append_assoc];rfl
   ·obtain ⟨hs1,hs2,_,hs4,hs5⟩:=hs
    exact Ok.no (by show ¬ ((r.length:Int)<_);omega) (Ok.inr ⟨hs2,hs4,by rw [hs5,List.take_length]⟩)
   ·show f.2.2.2.1+bV (r.drop 0)≤w
    rw [List.drop_zero,hrs]
    omega
  ·obtain ⟨⟨u,hf1⟩,hf2,hf3⟩:=hf'
   refine ⟨FI.mono hf1 (by omega),rfl,?_,fun _=>?_⟩
   ·show sg (f'.2.1.flatten++f'.2.2.1)=_
    rw [hf2,hf3,hr]
    unfold told
    simp only [yI,hsb,List.nil_append,List.append_assoc]
   ·have hat:f'.2.2.2.1=bV f'.2.2.1:=hf1.at_
    unfold Eu
    rw [if_neg (by omega),if_pos hc]
    show (f'.2.1.length,(f'.2.2.2.1,(0:Int)))=_
    rw [hat,hf2,hf3,lY,hrs, ← h.at_]
    simp only [Prod.mk.injEq,true_and,and_true]
    omega
 ·have hl0:f.2.2.1=[]→f.2.2.2.1=0:=fun e=>by rw [h.at_,e];rfl
  refine Ok.bind (Q:=fun f'=>FI w (n+1) f'∧f'.2.2.2.2.1=[]∧told f'=told f∧f'.2.2.2.1=0∧(f.2.2.1≠[]→f'.2.1.length=f.2.1.length+1)) (Ok.ifs (fun _=>Ok.ends (((uf h.noW (by omega)).and (DZ h.noW (by omega))).imp fun f' h'=>⟨h'.1.1,h'.1.2.2,zq h'.2,h'.2.2.2.1,fun _=>by rw [h'.2.1];simp⟩)) fun hc0=>?_) fun f1 hf1=>Ok.ends ?_
  ·have hc0: ¬ ((0:Int)<(f.2.2.1.length:Int)):=hc0
   have he:f.2.2.1=[]:=List.eq_nil_of_length_eq_zero (by omega)
   exact Ok.some ⟨h.noW.mono (by omega),rfl,rfl,hl0 he,fun h'=>absurd he h'⟩
  have hnl:bV a≤w→f.2.2.1≠[]:=fun h1 h2=>by
   have e3:=hl0 h2
   have e4:=hlw h2
   rw [e3,e4] at hc
   simp only [List.length_nil] at hc
   omega
  refine (Ok.range a (by omega) (Q:=fun s=>FI w (n+1+a.length) s∧s.2.2.2.2.1=[]∧told s=told f++a∧(bV a≤w→s.2.1.length=f1.2.1.length∧s.2.2.2.1=bV a)) (fun i s=>FI w (n+1+i) s∧s.2.2.2.2.1=[]∧told s=told f++a.take i∧(bV a≤w→s.2.1.length=f1.2.1.length∧s.2.2.2.1=bV (a.take i))) (fun i x s hx hs=>?_) (fun s hs=>?_) ⟨hf1.1,hf1.2.1,by rw [hf1.2.2.1];simp,fun _=>⟨rfl,hf1.2.2.2.1⟩⟩).imp fun s hs=>?_
  ·obtain ⟨hs0,hsw,hst,hsc⟩:=hs
   have hlt:=a_ hx
   refine Ok.yes (by show (i:Int)<_;omega) (Ok.bind (Ok.bH hx) fun y hy=>?_)
   subst hy
   have hx1:=ha x (fQ hx)
   have hx2:=hx1.1
   unfold GW at hx2
   have hp:=hs0.pos
   have hle:=Ru (fun g hg=>(ha g hg).1) (i+1)
   rw [AL hx] at hle
   have ew:IntKind.wrap .i64 (s.2.2.2.1+x.2.1)=s.2.2.2.1+x.2.1:=wrap64 (by omega) (by omega)
   refine Ok.bind (Q:=fun q=>q.2=x∧FI w (n+1+i+1) q.1∧q.1.2.2.2.2.1=[]∧q.1.2.2.2.1+x.2.1≤w∧told q.1=told s∧(bV a≤w→q.1=s)) ?_ fun q hq=>?_
   ·refine Ok.ifs (fun hc1=>Ok.bind ((uf hs0 (by omega)).and (DZ hs0 (by omega))) fun f2 hf2=>Ok.some ⟨rfl,hf2.1.1,hf2.1.2.2,?_,zq hf2.2,fun h9=>?_⟩) fun hc=>Ok.some ⟨rfl,hs0.mono (by omega),hsw,?_,rfl,fun _=>rfl⟩
    ·show f2.2.2.2.1+x.2.1≤w
     rw [hf2.2.2.2.1]
     omega
    ·exfalso
     have hw:=hs0.wd
     have hc1:s.1<IntKind.wrap .i64 (s.2.2.2.1+x.2.1):=hc1
     rw [ew,hw,(hsc h9).2] at hc1
     omega
    ·have hw:=hs0.wd
     have hc: ¬ (s.1<IntKind.wrap .i64 (s.2.2.2.1+x.2.1)):=hc
     rw [ew,hw] at hc
     show s.2.2.2.1+x.2.1≤w
     omega
   ·obtain ⟨hq1,hq2,hq3,hq4,hq5,hq6⟩:=hq
    refine Ok.bind ((zY (g:=q.2) hq2 (by rw [hq1];exact hx1.1) (by rw [hq1];exact hq4)).and (put_eq (g:=q.2) hq2)) fun f3 hf3=>Ok.inl ⟨aN (by omega),FI.mono hf3.1.1 (by omega),hf3.1.2.2.trans hq3,?_,fun h9=>⟨?_,?_⟩⟩
    ·show told f3=_
     rw [H_ hf3.2,hq5,hst,hq1,List.append_assoc,List.take_add_one,hx];rfl
    ·show f3.2.1.length=_
     rw [hf3.2.1,hq6 h9];exact (hsc h9).1
    ·show f3.2.2.2.1=_
     rw [hf3.1.2.1,hq6 h9,hq1,(hsc h9).2,AL hx]
  ·exact Ok.no (by show ¬ ((a.length:Int)<_);omega) (Ok.inr ⟨hs.1,hs.2.1,by rw [hs.2.2.1,List.take_length],fun h9=>by rw [← List.take_length (l:=a)];rw [List.take_length];have:=hs.2.2.2 h9;rw [List.take_length] at this;exact this⟩)
  ·refine ⟨hs.1.mono (by omega),hs.2.1,by rw [hs.2.2.1,yI],fun h9=>?_⟩
   obtain ⟨h7,h8⟩:=hs.2.2.2 h9
   unfold Eu
   rw [if_neg (by omega),if_neg hc,h7,h8,hf1.2.2.2.2 (hnl h9)]
theorem Mo {w:Int} {n:Nat} {f:Ft} {a:List Gl} (h:FI w n f) (hb: ∀ g∈f.2.2.2.2.1,g.1=[32]) (hlw:f.2.2.1=[]→f.2.2.2.2.1=[]) (ha: ∀ g∈a,GW g∧g.2.1≤w) (hn:n+a.length≤900000000):
  Ok (eZ a f) fun r=>r.1=[]∧FI w (n+a.length+1) r.2∧(∀ g∈r.2.2.2.2.2.1,g.1=[32])∧(r.2.2.2.1=[]→r.2.2.2.2.2.1=[])∧sg (told r.2)=sg (told f)++sg a∧(bV a≤w→(r.2.2.1.length,(r.2.2.2.2.1,(r.2.2.2.2.2.1.length:Int)))=Eu w (f.2.1.length,(f.2.2.2.1,(f.2.2.2.2.1.length:Int))) (bV a)):=by
 unfold eZ
 refine Ok.ifs (fun hc=>Ok.bind (QB h hb hlw ha (fun e=>by rw [e] at hc;simp at hc) hn) fun r hr=>Ok.some ⟨rfl,hr.1,?_,fun _=>hr.2.1,hr.2.2.1,fun h9=>?_⟩) fun hc=>?_
 ·show ∀ g∈r.2.2.2.2.1,_
  rw [hr.2.1];simp
 ·show (r.2.1.length,(r.2.2.2.1,(r.2.2.2.2.1.length:Int)))=_
  rw [hr.2.1]
  exact hr.2.2.2 h9
 ·have hc: ¬ ((0:Int)<(a.length:Int)):=hc
  have he:a=[]:=List.eq_nil_of_length_eq_zero (by omega)
  subst he
  refine Ok.some ⟨rfl,h.mono (by omega),hb,hlw,by simp [sg],fun _=>?_⟩
  unfold Eu
  rw [if_pos (show bV ([]:List Gl)=0 from rfl)]
theorem JX {w:Int} {n:Nat} {f:Ft} {g:Gl} (h:FI w n f) (hn:n≤1000000000):Ok (cu f g) fun f'=>FI w (n+1) f'∧f'.2.2.2.2.1=[]∧sg (told f')=sg (told f):=by
 unfold cu
 have h2:=h.hi
 have h3:=h.pos
 have e1:IntKind.wrap .i64 (Int.tdiv f.2.2.2.1 8)=f.2.2.2.1 / 8:=by
  rw [Int.tdiv_eq_ediv_of_nonneg h3.1];exact wrap64 (by omega) (by omega)
 refine Ok.bind (Ok.nz (Q:=(· =f.2.2.2.1 / 8)) (by decide) e1) fun r hr=>?_
 subst hr
 have e2:IntKind.wrap .i64 ((IntKind.wrap .i64 (f.2.2.2.1 / 8+1))*8)=(f.2.2.2.1 / 8+1)*8:=by
  rw [wrap64 (x:=f.2.2.2.1 / 8+1) (by omega) (by omega)];exact wrap64 (by omega) (by omega)
 simp only [e2]
 have hw:=h.wd
 refine Ok.ifs (fun _=>Ok.ends (((uf h.noW hn).and (DZ h.noW hn)).imp fun f' h'=>⟨h'.1.1,h'.1.2.2,by rw [zq h'.2];rfl⟩)) fun hlt=>Ok.ends ?_
 rw [hw] at hlt
 refine Ok.loop (fun k z=>z.1.1=[32]∧z.1.2.1=1∧FI w n z.2∧z.2.2.2.2.1+k=(f.2.2.2.1 / 8+1)*8∧z.2.2.2.2.2.1=[]∧sg (told z.2)=sg (told f)) (fun k z hz=>?_) ((f.2.2.2.1 / 8+1)*8 - f.2.2.2.1).toNat _ (by omega) ⟨rfl,rfl,h.noW,?_,rfl,rfl⟩
 ·obtain ⟨hz0,hz1,hz2,hz3,hz4,hz5⟩:=hz
  refine Ok.ifs (fun hc=>?_) fun hc=>Ok.inr ⟨hz2.mono (by omega),hz4,hz5⟩
  refine Ok.bind ((zY hz2 (show GW z.1 by unfold GW;omega) (by omega)).and (put_eq (g:=z.1) hz2)) fun r hr=>Ok.inl ⟨k - 1,by omega,hz0,hz1,hr.1.1,?_,hr.1.2.2.trans hz4,?_⟩
  ·have:=hr.1.2.1
   show r.2.2.2.1+_=_
   omega
  ·show sg (told r)=_
   rw [H_ hr.2,yI,hz5,Da (l:=[z.1]) (by simpa using hz0),List.append_nil]
 ·show f.2.2.2.1+_=_
  omega
theorem Qo {w:Int} {n:Nat} {f:Ft} {g:Gl} (h:FI w n f) (hn:n≤1000000000):Ok (dS f g) fun f'=>FI w (n+1) f'∧f'.2.2.2.2.1=[]∧sg (told f')=sg (told f):=by
 unfold dS
 refine Ok.bind (wR g) fun k _=>Ok.ifs (fun _=>Ok.ends (JX h hn)) fun _=>Ok.ends (((uf h hn).and (DZ h hn)).imp fun f' h'=>⟨h'.1.1,h'.1.2.2,by rw [zq h'.2]⟩)
theorem Mq {l:List Gl} (hl:l.length≤1000000000000) (h: ∀ g∈l,il g=3→GW g∧g.1≠[]):Ok (lC l) fun e=>e=0:=by
 unfold lC
 refine Ok.bind (Q:=Nx (fun _=>True) (fun _=>False)) ?_ fun r hr=>?_
 ·refine Ok.kr l (by omega) (fun _=>True) (fun i x hx _=>?_) (fun _=>Ok.no (by show ¬ ((l.length:Int)<_);omega) (Ok.inr trivial)) trivial
  have hlt:=a_ hx
  refine Ok.yes (by show (i:Int)<_;omega) (Ok.bind (Ok.bH hx) fun r hr=>?_)
  subst hr
  refine Ok.bind (Q:=fun b=>b=false) (Ok.bind (wR x) fun k hk=>?_) fun b hb=>Ok.cond (fun h=>by rw [hb] at h;cases h) fun _=>Ok.inl ⟨aN (by omega),trivial⟩
  subst hk
  refine Ok.ifs (fun hk=>?_) fun _=>Ok.some rfl
  obtain ⟨h1,h2⟩:=h x (fQ hx) hk
  unfold GW at h1
  rw [decide_eq_false h2]
  refine Ok.ifs (fun hw1=>Ok.some (decide_eq_false ?_)) fun hw1=>Ok.some rfl
  have hw1: ¬ (x.2.1:Int)=1:=hw1
  show ¬ ¬ (x.2.1:Int)=2
  omega
 ·cases r with
  | inl u=>exact Ok.some rfl
  | inr k=>exact hr.elim
theorem Tf (g:Gl):il g=3→g.1≠[32]:=fun h e=>by unfold il at h;rw [if_pos e] at h;cases h
theorem U5 (g:Gl):il g=0↔g.1=[32]:=by
 unfold il
 by_cases h:g.1=[32]
 ·rw [if_pos h];simp [h]
 ·rw [if_neg h]
  refine ⟨fun h2=>?_,fun h2=>absurd h2 h⟩
  split at h2
  ·cases h2
  ·split at h2<;>cases h2
def s3 (l:List Gl):List Gl:=l.filter fun g=>decide (il g=3)
theorem Gb {l:List Gl} {i:Nat} {x:Gl} (h:l[i]? =some x):s3 (l.take (i+1))=s3 (l.take i)++s3 [x]:=by
 unfold s3
 rw [List.take_add_one,h,List.filter_append];rfl
def Xw (w:Int) (l:List Gl):Prop:=(∀ g∈l,il g=0∨il g=3)∧ ∀ i,i≤l.length→U7 (l.take i)≤w
structure FJ (w:Int) (l:List Gl) (i:Nat) (s:List Gl×Ft):Prop where
 fi: ∃ n,FI w n s.2∧n+s.1.length≤3*i
 wo: ∀ g∈s.1,GW g∧g.2.1≤w
 wk: ∀ g∈s.1,g.1≠[32]
 bl: ∀ g∈s.2.2.2.2.2.1,g.1=[32]
 lw:s.2.2.2.1=[]→s.2.2.2.2.2.1=[]
 sg:sg (told s.2)++s.1=s3 (l.take i)
 ct:Xw w l→((s.2.2.1.length,(s.2.2.2.2.1,(s.2.2.2.2.2.1.length:Int))),bV s.1)=GU w (l.take i)
theorem S9 {l:List Gl} (h: ∀ g∈l,g.1≠[32]):sg l=l:=by
 unfold Go.Fn.sg
 rw [List.filter_eq_self]
 intro g hg
 simp [h g hg]
theorem FJ.flush {w:Int} {l:List Gl} {i:Nat} {s:List Gl×Ft} (h:FJ w l i s) (hi:i≤l.length) (hl:l.length≤100000000):
  Ok (eZ s.1 s.2) fun r=>r.1=[]∧(∃ n,FI w n r.2∧n≤3*i+1)∧(∀ g∈r.2.2.2.2.2.1,g.1=[32])∧(r.2.2.2.1=[]→r.2.2.2.2.2.1=[])∧Go.Fn.sg (told r.2)=s3 (l.take i)∧(Xw w l→(r.2.2.1.length,(r.2.2.2.2.1,(r.2.2.2.2.2.1.length:Int)))=Eu w (GU w (l.take i)).1 (GU w (l.take i)).2):=by
 obtain ⟨n,hf,hn⟩:=h.fi
 refine (Mo hf h.bl h.lw h.wo (by omega)).imp fun r hr=>⟨hr.1,⟨_,hr.2.1,by omega⟩,hr.2.2.1,hr.2.2.2.1,?_,fun hc=>?_⟩
 ·rw [hr.2.2.2.2.1,S9 h.wk];exact h.sg
 ·have e:=h.ct hc
  have e2:=Rb w (l.take i)
  have e3:=hc.2 i hi
  rw [← e] at e2
  rw [hr.2.2.2.2.2 (by rw [show bV s.1=_ from e2];exact e3), ← e]
theorem QM {l:List Gl} {w:Int} (hl:l.length≤100000000) (hlo:2≤w) (hhi:w≤200) (hg: ∀ g∈l,il g=3→GW g∧g.1≠[]):
  Ok (iw l w) fun r=>r.2=0∧sg r.1.flatten=s3 l∧(Xw w l→r.1.length=Rj w (GU w l)):=by
 unfold iw
 refine Ok.bind (Q:=fun b=>b=false) ?_ fun b hb=>Ok.cond (fun h=>by rw [hb] at h;cases h) fun _=>?_
 ·rw [show decide (w<(1:Int))=false from decide_eq_false (by omega)]
  exact Ok.some (decide_eq_false (by omega))
 refine Ok.bind (Mq (by omega) hg) fun e he=>?_
 subst he
 refine Ok.no (by simp) ?_
 refine Ok.bind (Q:=fun r=>FJ w l l.length (r.2,r.1)) ?_ fun r hr=>?_
 ·refine Ok.range l (by omega) (fun i s=>FJ w l i s) (fun i x s hx hs=>?_) (fun s hs=>?_) { fi:=⟨0,⟨rfl,by omega,hhi,by simp,by simp,LW.nil (by omega),rfl,by simp,by simp⟩,by simp⟩,wo:=by simp,wk:=by simp,bl:=by simp,lw:=fun _=>rfl,sg:=rfl,ct:=fun _=>rfl }
  ·have hlt:=a_ hx
   refine Ok.yes (by show (i:Int)<_;omega) (Ok.bind (Q:=fun r=>FJ w l (i+1) r) ?_ fun r hr=>Ok.inl ⟨aN (by omega),hr⟩)
   refine Ok.bind (Ok.bH hx) fun y hy=>?_
   subst hy
   refine Ok.bind (wR x) fun k hk=>?_
   refine Ok.bind (Q:=Nx (fun q=>q.1=s.1∧q.2.1=s.2∧(il x=1∨il x=2)) (Nx (fun q:List Gl×Ft=>FJ w l (i+1) q) (fun q:List Gl×Ft=>FJ w l (i+1) q))) ?_ fun q hq=>?_
   ·refine Ok.ifs (fun h3=>?_) fun h3=>Ok.ifs (fun h4=>?_) fun h4=>Ok.ifs (fun h5=>Ok.inl ⟨rfl,rfl, .inl (hk.symm.trans h5)⟩) fun h5=>Ok.ifs (fun h6=>Ok.inl ⟨rfl,rfl, .inr (hk.symm.trans h6)⟩) fun h6=>?_
    ·have hk3:il x=3:=hk.symm.trans h3
     have hgx:=(hg x (fQ hx) hk3).1
     have hw2: ¬ w<x.2.1:=by unfold GW at hgx;omega
     refine Ok.bind (Q:=fun q=>q.1=s.1∧q.2.1=s.2∧q.2.2=x) (Ok.ifs (fun hc=>absurd hc hw2) fun _=>Ok.some ⟨rfl,rfl,rfl⟩) fun q hq=>?_
     obtain ⟨hq1,hq2,hq3⟩:=hq
     obtain ⟨n,hs1,hs2⟩:=hs.fi
     refine Ok.bind (Ok.jk (by rw [hq1];simp only [List.length_cons,List.length_nil];omega)) fun t ht=>Ok.inr ?_
     have ht:t=s.1++[x]:=by rw [ht,hq1,hq3]
     have hin: ∀ g∈s.1++[x],g∈s.1∨g=x:=fun g hg=>by simpa using hg
     show FJ w l (i+1) (t,q.2.1)
     rw [ht,hq2]
     refine { fi:=⟨n,hs1,by show n+(s.1++[x]).length≤_;rw [List.length_append];simp only [List.length_cons,List.length_nil];omega⟩,wo:=fun g hg=>?_,wk:=fun g hg=>?_,bl:=hs.bl,lw:=hs.lw,sg:=?_,ct:=fun hc=>?_ }
     ·rcases hin g hg with h | h
      ·exact hs.wo g h
      ·rw [h];exact ⟨hgx,by omega⟩
     ·rcases hin g hg with h | h
      ·exact hs.wk g h
      ·rw [h];exact Tf x hk3
     ·show Go.Fn.sg (told s.2)++(s.1++[x])=_
      rw [Gb hx, ← hs.sg,List.append_assoc]
      simp [s3,hk3]
     ·rw [AB hx, ← hs.ct hc]
      unfold Dp
      rw [if_neg (Tf x hk3)]
      show (_,bV (s.1++[x]))=_
      rw [lY];simp [bV]
    ·have hk0:il x=0:=hk.symm.trans h4
     have hx32:=(U5 x).1 hk0
     refine Ok.bind (Q:=fun p:List Gl×Ft=>FJ w l (i+1) p) ?_ fun p hp=>Ok.inr hp
     refine Ok.bind (hs.flush (by omega) hl) fun t ht=>?_
     obtain ⟨ht1,⟨n,htf,htn⟩,htb,htl,hts,htc⟩:=ht
     refine Ok.bind (Q:=fun q=>q.2.1=[]∧q.2.2.1=t.2∧q.2.2.2=x∧q.1=(decide (0<t.2.2.2.1.length) && decide (t.2.2.2.2.2.1.length=0))) ?_ fun q hq=>?_
     ·refine Ok.ifs (fun h0=>Ok.some ⟨ht1,rfl,rfl,?_⟩) fun h0=>Ok.some ⟨ht1,rfl,rfl,?_⟩
      ·have h0:(0:Int)<(t.2.2.2.1.length:Int):=h0
       rw [decide_eq_true (show 0<t.2.2.2.1.length by omega),Bool.true_and]
       exact decide_eq_decide.2 (by omega)
      ·have h0: ¬ (0:Int)<(t.2.2.2.1.length:Int):=h0
       rw [decide_eq_false (show ¬ 0<t.2.2.2.1.length by omega),Bool.false_and]
     ·obtain ⟨hq1,hq2,hq3,hq4⟩:=hq
      have hs3:s3 (l.take (i+1))=s3 (l.take i):=by rw [Gb hx];simp [s3,hk0]
      have hpos:=htf.ZA
      refine Ok.cond (fun hc=>Ok.some ?_) fun hc=>Ok.some ?_
      ·rw [hq4,Bool.and_eq_true] at hc
       have h1:=of_decide_eq_true hc.1
       have h2:=of_decide_eq_true hc.2
       have h9:=htf
       rw [← hq2] at h9
       have hgl:q.2.2.2.1=[32]:=by rw [hq3];exact hx32
       refine { fi:=⟨n,{ h9 with ws:=by simp,w1:=by intro g hg;rw [List.mem_singleton.1 hg] },by show n+q.2.1.length≤_;rw [hq1];simp only [List.length_nil];omega⟩,wo:=by show ∀ g∈q.2.1,_;rw [hq1];simp,wk:=by show ∀ g∈q.2.1,_;rw [hq1];simp,bl:=by intro g hg;rw [List.mem_singleton.1 hg];exact hgl,lw:=fun e=>?_,sg:=?_,ct:=fun hcn=>?_ }
       ·have e:q.2.2.1.2.2.1=[]:=e
        rw [hq2] at e
        rw [e] at h1
        simp at h1
       ·show Go.Fn.sg (q.2.2.1.2.1.flatten++q.2.2.1.2.2.1)++q.2.1=_
        rw [hq1,hq2,hs3, ← hts,List.append_nil];rfl
       ·rw [AB hx]
        unfold Dp Yw
        rw [if_pos hx32, ← htc hcn,if_pos ⟨hpos.2 h1,by show ((t.2.2.2.2.2.1.length:Nat):Int)=0;omega⟩]
        show ((q.2.2.1.2.1.length,(q.2.2.1.2.2.2.1,(1:Int))),bV q.2.1)=_
        rw [hq1,hq2];rfl
      ·refine { fi:=⟨n,by show FI w n q.2.2.1;rw [hq2];exact htf,by show n+q.2.1.length≤_;rw [hq1];simp only [List.length_nil];omega⟩,wo:=by show ∀ g∈q.2.1,_;rw [hq1];simp,wk:=by show ∀ g∈q.2.1,_;rw [hq1];simp,bl:=by show ∀ g∈q.2.2.1.2.2.2.2.1,_;rw [hq2];exact htb,lw:=by show q.2.2.1.2.2.1=[]→q.2.2.1.2.2.2.2.1=[];rw [hq2];exact htl,sg:=?_,ct:=fun hcn=>?_ }
       ·show Go.Fn.sg (told q.2.2.1)++q.2.1=_
        rw [hq1,hq2,hs3, ← hts,List.append_nil]
       ·rw [AB hx]
        unfold Dp Yw
        rw [if_pos hx32, ← htc hcn,if_neg ?_]
        ·show ((q.2.2.1.2.1.length,(q.2.2.1.2.2.2.1,(q.2.2.1.2.2.2.2.1.length:Int))),bV q.2.1)=_
         rw [hq1,hq2];rfl
        ·rintro ⟨h1,h2⟩
         have h1:=hpos.1 h1
         have h2:((t.2.2.2.2.2.1.length:Nat):Int)=0:=h2
         rw [hq4,decide_eq_true h1,decide_eq_true (show t.2.2.2.2.2.1.length=0 by omega)] at hc
         cases hc
    ·exfalso
     have h3: ¬ k=3:=h3
     have h4: ¬ k=0:=h4
     have h5: ¬ k=1:=h5
     have h6: ¬ k=2:=h6
     rw [hk] at h3 h4 h5 h6
     unfold il at h3 h4 h5 h6
     revert h3 h4 h5 h6
     split
     ·intro _ h _ _;exact h rfl
     ·split
      ·intro _ _ h _;exact h rfl
      ·split
       ·intro _ _ _ h;exact h rfl
       ·intro h _ _ _;exact h rfl
   ·cases q with
    | inl a=>
     obtain ⟨ha1,ha2,hak⟩:=hq
     refine Ok.bind (Q:=fun t=>_) (by rw [ha1,ha2];exact hs.flush (by omega) hl) fun t ht=>?_
     obtain ⟨ht1,⟨n,htf,htn⟩,htb,htl,hts,htc⟩:=ht
     refine Ok.bind (Qo htf (by omega)) fun f2 hf2=>Ok.some ?_
     have hs3:s3 (l.take (i+1))=s3 (l.take i):=by
      rw [Gb hx]
      have: ¬ il x=3:=by omega
      simp [s3,this]
     refine { fi:=⟨n+1,hf2.1,by show n+1+t.1.length≤_;rw [ht1];simp only [List.length_nil];omega⟩,wo:=by show ∀ g∈t.1,_;rw [ht1];simp,wk:=by show ∀ g∈t.1,_;rw [ht1];simp,bl:=by show ∀ g∈f2.2.2.2.2.1,_;rw [hf2.2.1];simp,lw:=fun _=>hf2.2.1,sg:=?_,ct:=fun hcn=>?_ }
     ·show Go.Fn.sg (told f2)++t.1=_
      rw [hf2.2.2,ht1,hts,hs3,List.append_nil]
     ·exfalso
      rcases hcn.1 x (fQ hx) with h | h<;>omega
    | inr b=>
     cases b with
     | inl c=>exact Ok.some hq
     | inr c=>exact Ok.some hq
  ·exact Ok.no (by show ¬ ((l.length:Int)<_);omega) (Ok.inr hs)
 ·refine Ok.bind (hr.flush (Nat.le_refl _) hl) fun t ht=>?_
  obtain ⟨ht1,⟨n,htf,htn⟩,htb,htl,hts,htc⟩:=ht
  rw [List.take_length] at hts htc
  have hpos:=htf.ZA
  refine Ok.bind (Q:=fun f'=>sg f'.2.1.flatten=s3 l∧(Xw w l→f'.2.1.length=Rj w (GU w l))) (Ok.ifs (fun h0=>Ok.ends ((DZ htf (by omega)).imp fun f' hf'=>⟨?_,fun hc=>?_⟩)) fun h0=>Ok.some ⟨?_,fun hc=>?_⟩) fun f' hf'=>Ok.some ⟨rfl,hf'.1,hf'.2⟩
  ·rw [← hts,hf'.1]
   simp [told]
  ·have h0:(0:Int)<(t.2.2.2.1.length:Int):=h0
   unfold Rj
   rw [← htc hc,if_pos (hpos.2 (by omega)),hf'.1]
   simp
  ·have h0: ¬ (0:Int)<(t.2.2.2.1.length:Int):=h0
   have e:t.2.2.2.1=[]:=List.eq_nil_of_length_eq_zero (by omega)
   rw [← hts]
   unfold told
   rw [e,List.append_nil]
  ·have h0: ¬ (0:Int)<(t.2.2.2.1.length:Int):=h0
   unfold Rj
   rw [← htc hc,if_neg (fun h=>h0 (by have:=hpos.1 h;omega))]
end Go.Fn
/- The setter, plainly, on operations without lists and tables: what each does, with the looks. -/
namespace Go.Fn
open Go Go.Lf
abbrev wU:Type:=Int×(Int×Unit)
abbrev Yk:Type:=Int×(Int×Unit)
abbrev Sx:Type:=BJ×iL
abbrev Vm (s:Sx):Int:=s.2.1.2.2.1
abbrev oQ (s:Sx):List Gl:=s.2.2.2.2.2.2.2.1
abbrev AQ (s:Sx):Int:=s.2.2.2.2.2.2.2.2.1
abbrev sL (s:Sx):List (List Gl):=s.2.2.2.2.2.2.2.2.2.1.1
abbrev D6 (s:Sx):List Yk:=s.2.2.2.2.2.2.2.2.2.1.2.2.1
abbrev Iw (s:Sx):Bool:=s.2.2.2.2.2.2.2.2.2.1.2.2.2.1
abbrev Y8 (s:Sx):List Int:=kD (.int .i64) 32 s.2.1.2.1
abbrev Vw:Type:=(List (List Gl)×Bool)×(List Gl×(Int×List Yk))
def vw (s:Sx):Vw:=((sL s,Iw s),(oQ s,(AQ s,D6 s)))
abbrev Zy (s:Sx):List wU:=kD (.st bM) 32 s.2.1.1
def L_:wU:=(0,(7,()))
def rq (lks:List wU):wU:=lks.getLast?.getD L_
def UQ (l:wU) (c:zS):wU:=((Go.Lf.bits .andNot .i64 (Go.Lf.bits .or .i64 l.1 c.1) c.2.1),(if c.2.2.1= -1 then l.2.1 else c.2.2.1,()))
def JJ (ch:List zS) (l:wU) (n:Int):wU:=if n<0 then l else UQ l (ch[n.toNat]?.getD (0,(0,(0,()))))
def rP (ch:List zS) (lks:List wU) (k n:Int):List wU:=
 if k=8∨k=2 then lks++[JJ ch (rq lks) n] else if k=3∨k=4 then lks++[rq lks] else if k=5∨k=9 then lks.dropLast else lks
structure SI (ch:List zS) (wd:Int) (ks:List Int) (lks:List wU) (s:Sx):Prop where
 mr:s.1.1=0
 mn:Vm s=ks.length
 ch:s.2.2.1=ch
 wd:s.2.2.2.1=wd
 mg:s.2.2.2.2.1=0
 tb:s.2.2.2.2.2.2.1=none
 ln: ∀ (i:Nat) k,ks[i]? =some k→(Y8 s)[i]? =some (if k=3∨k=4 then 1 else 0)
 fl:FP ks
 ll:lks.length=ks.length
 lo: ∀ (i:Nat) l,lks[i]? =some l→(Zy s)[i]? =some l
def l7 (p:List (List Gl)×Bool) (l:List Gl):List (List Gl)×Bool:=if 2000≤p.1.length then (p.1,true) else (p.1++[l],p.2)
theorem Ap (p:List (List Gl)×Bool) (l:List Gl) (h:p.1.length≤2000):(l7 p l).1.length≤2000:=by
 unfold l7
 split
 ·exact h
 ·rw [List.length_append];simp only [List.length_cons,List.length_nil];omega
def Ez (lk:wU) (n:Int) (c:LF):Gl:=(c.1,(c.2.2.1,(lk,(n,()))))
def PS (wd:Int) (ks:List Int) (lks:List wU) (last:Int) (o:mF) (v v':Vw):Prop:=
 (o.1=8∧(v'.1=v.1∨(last=9∧v'.1=l7 v.1 []))∧v'.2=([],v.2.2))∨
 (o.1=1∧v'=(v.1,(v.2.1++(cellsS o.2.2.1).map (Ez (rq lks) v.2.2.1),v.2.2)))∨
 ((o.1=6∨o.1=7)∧ ∃ lk b,(b=9∨b=10)∧v'=(v.1,(v.2.1++[([b],((1:Int),(lk,(v.2.2.1,()))))],v.2.2)))∨
 (o.1=2∧v'=v)∨
 ((o.1=3∨o.1=4)∧ ∃ t,v'=(v.1,(v.2.1,(((v.2.2.2.length+1:Nat):Int),v.2.2.2++[t]))))∨
 (o.1=5∧v'=(v.1,(v.2.1,(if ks.getLast? =some 2 then v.2.2.1 else 0,v.2.2.2))))∨
 (o.1=9∧ ∃ ls,Ok (iw v.2.1 wd) (fun r=>r.1=ls)∧v'.1=ls.foldl l7 v.1∧v'.2=v.2)
theorem Ib (l:wU) (c:zS):lu l c=some (UQ l c):=by
 obtain ⟨a,b,u⟩:=l
 obtain ⟨x,y,z,w⟩:=c
 unfold lu UQ
 by_cases h:z= -1
 ·simp [h]
 ·simp [h]
theorem tL (t:List UInt8):(cellsS t).length≤t.length:=by
 have key: ∀ (l:List Eg) (acc:List LF),(l.foldl (xA t) acc).length≤acc.length+l.length:=by
  intro l
  induction l with
  | nil=>intro acc;simp
  | cons c r ih=>
   intro acc
   have h1:=ih (xA t acc c)
   have h2:=CQ t acc c
   simp only [List.foldl_cons,List.length_cons]
   omega
 have h1:=key (sK t t.length 0) []
 have h2:=De t t.length 0
 unfold cellsS
 simp only [List.length_nil] at h1
 omega
theorem FP.one {ks:List Int} (h:FP ks) (hl:ks.length=1):ks=[8]:=by
 rcases h with rfl | ⟨r,rfl,_,_⟩
 ·simp at hl
 ·cases r with
  | nil=>rfl
  | cons a r=>simp at hl
section
variable {ch:List zS} {wd:Int} {ks:List Int} {lks:List wU} {s:Sx}
theorem Ah (h:SI ch wd ks lks s):Ok (aS s.2.1) fun r=>r=rq lks:=by
 unfold aS
 have hl:=h.fl.len
 have hll:=h.ll
 have hm:s.2.1.2.2.1=ks.length:=h.mn
 refine Ok.ifs (fun h0=>Ok.sb (Ok.some ?_)) fun h0=>Ok.ends ?_
 ·have h0:s.2.1.2.2.1=0:=h0
  rw [hm] at h0
  have:lks=[]:=List.eq_nil_of_length_eq_zero (by omega)
  rw [this];rfl
 have h0: ¬ s.2.1.2.2.1=0:=h0
 rw [hm] at h0
 have e1:IntKind.wrap .i64 (s.2.1.2.2.1 - 1)=((ks.length - 1:Nat):Int):=by rw [hm,wrap64 (by omega) (by omega)];omega
 rw [e1]
 have hlen:(kD (.st bM) 32 s.2.1.1).length=32:=ng
 have hg:lks[ks.length - 1]? =some (rq lks):=by
  unfold rq
  rw [List.getLast?_eq_getElem?,hll]
  cases hx:lks[ks.length - 1]? with
  | some x=>rfl
  | none=>rw [List.getElem?_eq_none_iff] at hx;omega
 have hq:=h.lo _ _ hg
 refine Ok.at_ (by omega) (by rw [hlen,Int.toNat_natCast];omega) ?_
 have h2:=(List.getElem?_eq_some_iff.1 hq).2
 exact h2
theorem FM (h:SI ch wd ks lks s) {n:Int} (hn:n<ch.length):Ok (dO s n) fun r=>r.1=JJ ch (rq lks) n∧r.2=s:=by
 unfold dO
 refine Ok.ifs (fun h0=>Ok.bind (Ah h) fun l hl=>Ok.some ⟨?_,rfl⟩) fun h0=>Ok.bind (Ah h) fun l hl=>?_
 ·have h0:n<0:=h0
  subst hl
  unfold JJ
  rw [if_pos h0]
 have h0: ¬ n<0:=h0
 have hc:=h.ch
 subst hl
 have hlt:n.toNat<ch.length:=by omega
 refine Ok.bind (Ok.at_ (Q:=(· =ch[n.toNat]?.getD (0,(0,(0,()))))) (by omega) (by rw [hc];omega) ?_) fun c hcc=>?_
 ·rw [List.getElem?_eq_getElem hlt]
  simp only [hc]
  rfl
 ·subst hcc
  rw [show lu _ _=_ from Ib _ _,Option.bind_some]
  refine Ok.some ⟨?_,rfl⟩
  unfold JJ
  rw [if_neg h0]
theorem Kb (h:SI ch wd ks lks s) (l:wU) {n k:Int} (hk:FP (ks++[k])) (hn:n=if k=3∨k=4 then 1 else 0):Ok (eF s l n) fun s'=>SI ch wd (ks++[k]) (lks++[l]) s'∧vw s'=vw s:=by
 unfold eF
 have hl:=hk.len
 rw [List.length_append] at hl
 simp only [List.length_cons,List.length_nil] at hl
 have hm:s.2.1.2.2.1=ks.length:=h.mn
 have hlen1:(kD (.st bM) 32 s.2.1.1).length=32:=ng
 have hlen2:(Y8 s).length=32:=ng
 refine Ok.bind (Ok.lG (Q:=(· =ks.length)) (by omega) (by omega) (by omega)) fun j hj=>?_
 subst hj
 refine Ok.bind (Ok.nth (Q:=fun _=>True) (Nat.lt_of_lt_of_eq (by omega:ks.length<32) hlen1.symm) trivial) fun _ _=>?_
 refine Ok.bind (Ok.lG (Q:=(· =ks.length)) (by omega) (by omega) (by omega)) fun j hj=>?_
 subst hj
 refine Ok.bind (Ok.nth (Q:=fun _=>True) (Nat.lt_of_lt_of_eq (by omega:ks.length<32) hlen2.symm) trivial) fun _ _=>Ok.some ⟨?_,rfl⟩
 refine { mr:=h.mr,mn:=?_,ch:=h.ch,wd:=h.wd,mg:=h.mg,tb:=h.tb,ln:=fun i k' hi=>?_,fl:=hk,ll:=by rw [List.length_append,List.length_append,h.ll];rfl,lo:=fun i l' hi=>?_ }
 ·show IntKind.wrap .i64 (s.2.1.2.2.1+1)=_
  rw [hm,wrap64 (by omega) (by omega),List.length_append];rfl
 ·have e:kD (.int .i64) 32 (Ef (.int .i64) 32 s.2.1.2.1 ks.length n)=(Y8 s).set ks.length n:=Cj
  show (kD (.int .i64) 32 (Ef (.int .i64) 32 s.2.1.2.1 ks.length n))[i]? =_
  rw [e]
  by_cases he:i=ks.length
  ·subst he
   rw [List.getElem?_append_right (Nat.le_refl _),Nat.sub_self] at hi
   have hi:k=k':=by simpa using hi
   rw [List.getElem?_set_self (by omega), ← hi,hn]
  ·have hil:=a_ hi
   rw [List.length_append] at hil
   have hil:i<ks.length:=by simp only [List.length_cons,List.length_nil] at hil;omega
   rw [List.getElem?_append_left hil] at hi
   rw [List.getElem?_set_ne (by omega)]
   exact h.ln i k' hi
 ·have hll:=h.ll
  have e:kD (.st bM) 32 (Ef (.st bM) 32 s.2.1.1 ks.length l)=(Zy s).set ks.length l:=Cj
  show (kD (.st bM) 32 (Ef (.st bM) 32 s.2.1.1 ks.length l))[i]? =_
  rw [e]
  by_cases he:i=ks.length
  ·subst he
   rw [List.getElem?_append_right (by omega),hll,Nat.sub_self] at hi
   have hi:l=l':=by simpa using hi
   rw [List.getElem?_set_self (by show ks.length<(kD (.st bM) 32 s.2.1.1).length;omega), ← hi]
  ·have hil:=a_ hi
   rw [List.length_append] at hil
   have hil:i<lks.length:=by simp only [List.length_cons,List.length_nil] at hil;omega
   rw [List.getElem?_append_left hil] at hi
   rw [List.getElem?_set_ne (by omega)]
   exact h.lo i l' hi
theorem LP (h:SI ch wd ks lks s) (l:List Gl) (hb:(sL s).length≤2000):Ok (dC s l) fun s'=>SI ch wd ks lks s'∧vw s'=(l7 (sL s,Iw s) l,(vw s).2):=by
 unfold dC
 refine Ok.ifs (fun hc=>Ok.some ⟨⟨h.mr,h.mn,h.ch,h.wd,h.mg,h.tb,h.ln,h.fl,h.ll,h.lo⟩,?_⟩) fun hc=>?_
 ·have hc:(2000:Int)≤((sL s).length:Int):=hc
  unfold l7
  rw [if_pos (by show 2000≤(sL s).length;omega)];rfl
 ·have hc: ¬ (2000:Int)≤((sL s).length:Int):=hc
  refine Ok.bind (Ok.jk (by simp only [List.length_cons,List.length_nil];omega)) fun r hr=>Ok.some ⟨⟨h.mr,h.mn,h.ch,h.wd,h.mg,h.tb,h.ln,h.fl,h.ll,h.lo⟩,?_⟩
  subst hr
  unfold l7
  rw [if_neg (by show ¬ 2000≤(sL s).length;omega)];rfl
theorem yw (h:SI ch wd ks lks s):aV s.1=some false:=by
 unfold aV
 have hm:s.1.1=0:=h.mr
 rw [show (s.1).1=0 from hm];rfl
theorem MF (l:List Gl):iQ l 0=some l:=by
 refine Ok.eq ?_
 unfold iQ
 refine Ok.ends (Ok.loop (fun _ z=>z=l) (fun _ z hz=>?_) 0 _ (by omega) rfl)
 subst hz
 exact Ok.no (by show ¬ ((z.length:Int)<0);omega) (Ok.inr rfl)
theorem Q8 (h:SI ch wd [8] lks s) (hw:2≤wd∧wd≤200) (hf:(oQ s).length≤10000000) (hg: ∀ g∈oQ s,il g=3→GW g∧g.1≠[]) (hb:(sL s).length≤2000):
  Ok (gI s) fun s'=>SI ch wd [] [] s'∧ ∃ ls,Ok (iw (oQ s) wd) (fun r=>r.1=ls)∧vw s'=(ls.foldl l7 (sL s,Iw s),(vw s).2):=by
 unfold gI
 have htb:s.2.2.2.2.2.2.1=none:=h.tb
 have hwd:s.2.2.2.1=wd:=h.wd
 have hmg:s.2.2.2.2.1=0:=h.mg
 have hmn:s.2.1.2.2.1=((1:Nat):Int):=h.mn
 rw [htb]
 refine Ok.no (by show ¬ ((0:Int)<((0:Nat):Int));omega) ?_
 have ew:IntKind.wrap .i64 (s.2.2.2.1 - s.2.2.2.2.1)=wd:=by rw [hwd,hmg,wrap64 (by omega) (by omega)];omega
 rw [ew]
 obtain ⟨r,hr,hr2⟩:=Lj (l:=oQ s) (w:=wd) (by omega)
 rw [show iw s.2.2.2.2.2.2.2.1 wd=some r from hr,Option.bind_some]
 have h0:SI ch wd [] [] (s.1,((Go.Lf.u2 s.2.1 ((Go.IntKind.wrap .i64 (s.2.1.2.2.1 - (1:Int))),s.2.1.2.2.2)),s.2.2)):=by
  refine { mr:=h.mr,mn:=?_,ch:=h.ch,wd:=h.wd,mg:=h.mg,tb:=h.tb,ln:=fun i k hi=>(by simp at hi),fl:= .inl rfl,ll:=rfl,lo:=fun i k hi=>(by simp at hi) }
  show IntKind.wrap .i64 (s.2.1.2.2.1 - 1)=_
  rw [hmn];rfl
 refine Ok.bind (Q:=fun s1=>SI ch wd [] [] s1∧vw s1=vw s) (Ok.ifs (fun _=>?_) fun _=>Ok.some ⟨h0,rfl⟩) fun s1 hs1=>?_
 ·unfold ku
  rw [yw h0,Option.bind_some]
  exact Ok.some ⟨⟨rfl,h0.mn,h0.ch,h0.wd,h0.mg,h0.tb,h0.ln,h0.fl,h0.ll,h0.lo⟩,rfl⟩
 ·refine Ok.ends (Ok.range r.1 (by omega) (fun i s'=>SI ch wd [] [] s'∧vw s'=((r.1.take i).foldl l7 (sL s,Iw s),(vw s).2)∧(sL s').length≤2000) (fun i x s' hx hs'=>?_) (fun s' hs'=>?_) ⟨hs1.1,hs1.2,?_⟩)
  ·obtain ⟨hi1,hi2,hi3⟩:=hs'
   have hlt:=a_ hx
   have hx2:=(hr2.2 x (fQ hx)).1.len
   refine Ok.yes (by show (i:Int)<_;omega) ?_
   rw [show aV (s'.1)=some false from yw hi1,Option.bind_some]
   refine Ok.cond (fun h=>by cases h) fun _=>?_
   have hm':s'.2.2.2.2.1=0:=hi1.mg
   show Ok ((iQ [] s'.2.2.2.2.1).bind _) _
   rw [hm',MF,Option.bind_some]
   refine Ok.bind (Ok.bH hx) fun y hy=>?_
   subst hy
   refine Ok.bind (Ok.jk (by simp only [List.length_nil];omega)) fun z hz=>?_
   rw [List.nil_append] at hz
   subst hz
   refine Ok.bind (LP hi1 z hi3) fun s2 hs2=>Ok.inl ⟨aN (by omega),hs2.1,?_,?_⟩
   ·rw [hs2.2,List.take_add_one,hx,List.foldl_append]
    have e:=congrArg Prod.fst hi2
    have e2:=congrArg Prod.snd hi2
    show (l7 (vw s').1 z,(vw s').2)=_
    rw [e,e2];rfl
   ·have e:=congrArg (fun v:Vw=>v.1.1) hs2.2
    show (vw s2).1.1.length≤_
    rw [show (vw s2).1.1=_ from e]
    exact Ap _ _ hi3
  ·refine Ok.no (by show ¬ ((r.1.length:Int)<_);omega) (Ok.inr ⟨hs'.1,r.1,⟨r,rfl,rfl⟩,?_⟩)
   have:=hs'.2.1
   rw [List.take_length] at this
   exact this
  ·have e:=congrArg (fun v:Vw=>v.1.1) hs1.2
   show (vw s1).1.1.length≤_
   rw [show (vw s1).1.1=_ from e]
   exact hb
theorem K4 (h:SI ch wd ks lks s) {N:Int} {T:List UInt8} {W:List Int} {u:Unit} {last:Int} {k:Int} {ks':List Int} (hkc:k=3∨k=4) (hk:cO ks k=some ks') (hne:k≠8→ks≠[]) (hlk:(D6 s).length≤1000000):
  Ok (eu s (k,(N,(T,(W,u)))) last) fun s'=>SI ch wd ks' (rP ch lks k N) s'∧PS wd ks lks last (k,(N,(T,(W,u)))) (vw s) (vw s'):=by
 unfold eu
 have nk: ∀ j:Int,j≠3∧j≠4→ ¬ k=j:=fun j hj=>by omega
 refine Ok.no (nk 8 (by decide)) (Ok.no (nk 1 (by decide)) (Ok.no (nk 6 (by decide)) (Ok.no (nk 7 (by decide)) (Ok.no (nk 2 (by decide)) ?_))))
 have hks:=hne (by omega)
 unfold cO at hk
 rw [if_neg (by omega),if_neg hks,if_neg (by omega),if_neg (by omega),if_pos hkc] at hk
 by_cases h16:(∀ j∈ks,j≠3∧j≠4)∧ks.length≤16
 case neg=>rw [if_neg h16] at hk;cases hk
 rw [if_pos h16] at hk
 injection hk with hk
 subst hk
 refine Ok.bind (Q:=fun r=>r.1=true∧r.2=(s,(k,(N,(T,(W,u)))))) (Ok.ifs (fun h3=>Ok.some ⟨decide_eq_true h3,rfl⟩) fun h3=>Ok.some ⟨decide_eq_true (hkc.resolve_left h3),rfl⟩) fun r hr=>?_
 obtain ⟨b,r⟩:=r
 obtain ⟨hb1,hr⟩:=hr
 dsimp only at hb1 hr
 subst hb1 hr
 refine Ok.cond (fun _=>?_) fun h=>(by cases h)
 refine Ok.bind (Q:=fun r=>r.2=(s,(k,(N,(T,(W,u)))))) (Ok.ifs (fun _=>Ok.some rfl) fun _=>Ok.some rfl) fun r hr=>?_
 obtain ⟨b,r⟩:=r
 dsimp only at hr
 subst hr
 refine Ok.bind (Ok.jk (by show ((D6 s).length+1)*16≤_;omega)) fun ls hls=>Ok.bind (Ah h) fun lk hlkt=>?_
 subst hlkt
 have h8:SI ch wd ks lks (Go.Lf.u8 s ((((List.length ls):Nat):Int),((Go.Lf.u2 s.2.2.2.2.2.2.2.2.2.1 (ls,s.2.2.2.2.2.2.2.2.2.1.2.2.2)),s.2.2.2.2.2.2.2.2.2.2))):=⟨h.mr,h.mn,h.ch,h.wd,h.mg,h.tb,h.ln,h.fl,h.ll,h.lo⟩
 have hnx:rP ch lks k N=lks++[rq lks]:=by unfold rP;rw [if_neg (by omega),if_pos hkc]
 rw [hnx]
 refine Ok.ends ((Kb h8 _ (k:=k) (n:=1) (h.fl.cons hks (.inr hkc) h16.2) (by rw [if_pos hkc])).imp fun s' hs'=>⟨hs'.1, .inr (.inr (.inr (.inr (.inl ⟨hkc,?_⟩))))⟩)
 refine ⟨(b,(N,())),?_⟩
 rw [hs'.2]
 show ((sL s,Iw s),(oQ s,(((ls.length:Nat):Int),ls)))=_
 rw [hls,List.length_append];rfl
theorem Va (h:SI ch wd ks lks s) {o:mF} {last:Int} {ks':List Int} {nt lst:Int} (hF:Bd ch.length nt lst o) (hk:cO ks o.1=some ks') (hw:2≤wd∧wd≤200) (hT:o.2.2.1.length≤1048576)
  (hf:(oQ s).length≤8000000) (hg: ∀ g∈oQ s,il g=3→GW g∧g.1≠[]) (hb:(sL s).length≤2000) (hlk:(D6 s).length≤1000000):
  Ok (eu s o last) fun s'=>SI ch wd ks' (rP ch lks o.1 o.2.1) s'∧PS wd ks lks last o (vw s) (vw s'):=by
 obtain ⟨k,N,T,W,u⟩:=o
 dsimp only at hk hT
 have hl:=h.fl.len
 have hkk:=hF.kind
 dsimp only at hkk
 unfold eu
 have hcase:k=1∨k=2∨k=3∨k=4∨k=5∨k=6∨k=7∨k=8∨k=9:=by omega
 have hne:k≠8→ks≠[]:=fun h8 e=>by
  unfold cO at hk
  rw [if_neg h8,if_pos e] at hk
  cases hk
 have hsame:k=1∨k=6∨k=7→ks'=ks:=fun hkc=>by
  unfold cO at hk
  rw [if_neg (by omega),if_neg (hne (by omega)),if_pos hkc] at hk
  injection hk with hk
  exact hk.symm
 have hflow: ∀ (fl:List Gl),SI ch wd ks lks (Go.Lf.u7 s (fl,s.2.2.2.2.2.2.2.2)):=fun fl=>⟨h.mr,h.mn,h.ch,h.wd,h.mg,h.tb,h.ln,h.fl,h.ll,h.lo⟩
 rcases hcase with rfl | rfl | rfl | rfl | rfl | rfl | rfl | rfl | rfl
 ·-- a text
  refine Ok.no (of_decide_eq_false rfl) (Ok.yes rfl ?_)
  have hks:=hsame (.inl rfl)
  subst hks
  rw [show qK ((1:Int),(N,(T,(W,u)))).2.2.1=some (cellsS T) from OI T (by omega),Option.bind_some]
  have hcl:=tL T
  obtain ⟨lk,hlk',hlkt⟩:=Ah h
  subst hlkt
  refine Ok.ends ((Ok.range (cellsS T) (by omega) (Q:=fun s'=>s'=Go.Lf.u7 s (oQ s++(cellsS T).map (Ez (rq lks) (AQ s)),s.2.2.2.2.2.2.2.2)) (fun i s'=>s'=Go.Lf.u7 s (oQ s++((cellsS T).take i).map (Ez (rq lks) (AQ s)),s.2.2.2.2.2.2.2.2)) (fun i x s' hx hs'=>?_) (fun s' hs'=>?_) ?_).imp fun s' hs'=>?_)
  ·have hlt:=a_ hx
   subst hs'
   refine Ok.yes (by show (i:Int)<_;omega) (Ok.bind (Ok.bH hx) fun y hy=>?_)
   subst hy
   rw [show aS (Go.Lf.u7 s (oQ s++((cellsS T).take i).map (Ez (rq lks) (AQ s)),s.2.2.2.2.2.2.2.2)).2.1=some (rq lks) from hlk',Option.bind_some]
   refine Ok.bind (Q:=(· =(oQ s++((cellsS T).take i).map (Ez (rq lks) (AQ s)))++[Ez (rq lks) (AQ s) x])) (Ok.app ?_ rfl) fun r hr=>Ok.inl ⟨aN (by omega),?_⟩
   ·show ((oQ s++((cellsS T).take i).map (Ez (rq lks) (AQ s))).length+1)*48≤_
    rw [List.length_append,List.length_map,List.length_take]
    omega
   ·subst hr
    rw [List.take_add_one,hx,List.map_append, ← List.append_assoc];rfl
  ·rw [List.take_length] at hs'
   exact Ok.no (by show ¬ (((cellsS T).length:Int)<_);omega) (Ok.inr hs')
  ·show s=_
   simp only [List.take_zero,List.map_nil,List.append_nil]
  ·subst hs'
   exact ⟨hflow _, .inr (.inl ⟨rfl,rfl⟩)⟩
 ·-- a style
  refine Ok.no (of_decide_eq_false rfl) (Ok.no (of_decide_eq_false rfl) (Ok.no (of_decide_eq_false rfl) (Ok.no (of_decide_eq_false rfl) (Ok.yes rfl ?_))))
  have hN:N<ch.length:=by
   obtain ⟨_,h1 | h1 | h1 | h1 | h1⟩:=hF
   ·have:=h1.1;dsimp only at this;omega
   ·exact h1.2.2.1
   ·have:=h1.1;dsimp only at this;omega
   ·have:=h1.1;dsimp only at this;omega
   ·have:=h1.1;dsimp only at this;omega
  have hks:=hne (by omega)
  unfold cO at hk
  rw [if_neg (by omega),if_neg hks,if_neg (by omega),if_pos rfl] at hk
  by_cases h16:ks.length≤16
  case neg=>rw [if_neg h16] at hk;cases hk
  rw [if_pos h16] at hk
  injection hk with hk
  subst hk
  refine Ok.bind (FM h hN) fun r hr=>?_
  obtain ⟨lk,s2⟩:=r
  obtain ⟨hr1,hr⟩:=hr
  dsimp only at hr hr1
  subst hr hr1
  exact Ok.ends ((Kb h _ (k:=2) (h.fl.cons hks (.inl rfl) h16) rfl).imp fun s' hs'=>⟨hs'.1, .inr (.inr (.inr (.inl ⟨rfl,hs'.2⟩)))⟩)
 ·exact K4 h (.inl rfl) hk hne hlk
 ·exact K4 h (.inr rfl) hk hne hlk
 ·-- a brace
  refine Ok.no (of_decide_eq_false rfl) (Ok.no (of_decide_eq_false rfl) (Ok.no (of_decide_eq_false rfl) (Ok.no (of_decide_eq_false rfl) (Ok.no (of_decide_eq_false rfl) ?_))))
  refine Ok.bind (Q:=(· =(false,(s,((5:Int),(N,(T,(W,u))))))) ) (Ok.of rfl rfl) fun r hr=>?_
  subst hr
  refine Ok.cond (fun h=>by cases h) fun _=>Ok.yes rfl ?_
  have hks:=hne (by omega)
  unfold cO at hk
  rw [if_neg (by omega),if_neg hks,if_neg (by omega),if_neg (by omega),if_neg (by omega),if_pos rfl] at hk
  by_cases h2:2≤ks.length
  case neg=>rw [if_neg h2] at hk;cases hk
  rw [if_pos h2] at hk
  injection hk with hk
  subst hk
  have hm:s.2.1.2.2.1=ks.length:=h.mn
  have e1:IntKind.wrap .i64 (s.2.1.2.2.1 - 1)=((ks.length - 1:Nat):Int):=by rw [hm,wrap64 (by omega) (by omega)];omega
  have hlast:ks[ks.length - 1]? =some ks[ks.length - 1]:=List.getElem?_eq_getElem (by omega)
  have hln:=h.ln _ _ hlast
  have hgl:ks.getLast? =some ks[ks.length - 1]:=by rw [List.getLast?_eq_getElem?,hlast]
  have hkind:=h.fl.get hlast
  refine Ok.bind (Q:=(· =ks.length - 1)) (by show Ok (lG 32 (IntKind.wrap .i64 (s.2.1.2.2.1 - 1))) _;rw [e1];exact Ok.lG (by omega) (by omega) (by omega)) fun j hj=>?_
  subst hj
  refine Ok.bind (Ok.of hln (Q:=(· =if ks[ks.length - 1]=3∨ks[ks.length - 1]=4 then 1 else 0)) rfl) fun x hx=>?_
  have base: ∀ (n:Int),SI ch wd ks.dropLast lks.dropLast (s.1,((Go.Lf.u2 s.2.1 ((Go.IntKind.wrap .i64 (s.2.1.2.2.1 - (1:Int))),s.2.1.2.2.2)),(Go.Lf.u6 s.2.2 (n,s.2.2.2.2.2.2.2.2.2)))):=fun n=>by
   refine { mr:=h.mr,mn:=?_,ch:=h.ch,wd:=h.wd,mg:=h.mg,tb:=h.tb,ln:=fun i k hi=>?_,fl:=h.fl.drop h2,ll:=by rw [List.length_dropLast,List.length_dropLast,h.ll],lo:=fun i k hi=>?_ }
   ·show IntKind.wrap .i64 (s.2.1.2.2.1 - 1)=_
    rw [e1,List.length_dropLast]
   ·have hil:=a_ hi
    rw [List.length_dropLast] at hil
    rw [List.getElem?_dropLast,if_pos (by omega)] at hi
    exact h.ln i k hi
   ·have hil:=a_ hi
    rw [List.length_dropLast] at hil
    rw [List.getElem?_dropLast,if_pos (by omega)] at hi
    exact h.lo i k hi
  refine Ok.ifs (fun hc=>Ok.some ⟨base 0,?_⟩) fun hc=>Ok.some ⟨base (AQ s),?_⟩
  ·have hc:x=1:=hc
   refine .inr (.inr (.inr (.inr (.inr (.inl ⟨rfl,?_⟩)))))
   rw [hgl]
   have:ks[ks.length - 1]≠2:=fun e=>by rw [hx,if_neg (by omega)] at hc;cases hc
   rw [if_neg (by simpa using this)];rfl
  ·have hc: ¬ x=1:=hc
   refine .inr (.inr (.inr (.inr (.inr (.inl ⟨rfl,?_⟩)))))
   rw [hgl]
   have:ks[ks.length - 1]=2:=by
    rcases hkind with ⟨h0,_⟩ | ⟨_,h0 | h0⟩
    ·omega
    ·exact h0
    ·exact absurd (by rw [hx,if_pos h0]) hc
   rw [this,if_pos rfl];rfl
 ·refine Ok.no (of_decide_eq_false rfl) (Ok.no (of_decide_eq_false rfl) (Ok.yes rfl ?_))
  have hks:=hsame (.inr (.inl rfl))
  subst hks
  refine Ok.bind (Ah h) fun lk _=>Ok.bind (Ok.jk (by show ((oQ s).length+1)*48≤_;omega)) fun r hr=>Ok.some ⟨hflow _,?_⟩
  subst hr
  exact .inr (.inr (.inl ⟨.inl rfl,lk,9, .inl rfl,rfl⟩))
 ·refine Ok.no (of_decide_eq_false rfl) (Ok.no (of_decide_eq_false rfl) (Ok.no (of_decide_eq_false rfl) (Ok.yes rfl ?_)))
  have hks:=hsame (.inr (.inr rfl))
  subst hks
  refine Ok.bind (Ah h) fun lk _=>Ok.bind (Ok.jk (by show ((oQ s).length+1)*48≤_;omega)) fun r hr=>Ok.some ⟨hflow _,?_⟩
  subst hr
  exact .inr (.inr (.inl ⟨.inr rfl,lk,10, .inr rfl,rfl⟩))
 ·-- a paragraph
  refine Ok.yes rfl ?_
  have hN:N<ch.length:=by
   obtain ⟨_,h1 | h1 | h1 | h1 | h1⟩:=hF
   ·have:=h1.1;dsimp only at this;omega
   ·have:=h1.1;dsimp only at this;omega
   ·have:=h1.1;dsimp only at this;omega
   ·exact h1.2.2.1
   ·have:=h1.1;dsimp only at this;omega
  unfold cO at hk
  rw [if_pos rfl] at hk
  by_cases hks:ks=[]
  case neg=>rw [if_neg hks] at hk;cases hk
  rw [if_pos hks] at hk
  injection hk with hk
  subst hk hks
  refine Ok.bind (Q:=fun r=>r.2=((8:Int),(N,(T,(W,u))))∧SI ch wd [] lks r.1∧((vw r.1).1=(vw s).1∨(last=9∧(vw r.1).1=l7 (vw s).1 []))∧(vw r.1).2=(vw s).2) ?_ fun r4 hr4=>?_
  ·refine Ok.bind (Q:=fun r=>r.2=(s,((8:Int),(N,(T,(W,u)))))∧(r.1=true→last=9)) ?_ fun r2 hr2=>?_
   ·refine Ok.ifs (fun h9=>?_) fun _=>Ok.some ⟨rfl,fun h=>(by cases h)⟩
    rw [yw h,Option.bind_some]
    exact Ok.some ⟨rfl,fun _=>h9⟩
   ·obtain ⟨b,r2⟩:=r2
    obtain ⟨hr2,h9⟩:=hr2
    dsimp only at hr2 h9
    subst hr2
    refine Ok.cond (fun hbt=>Ok.bind (LP h [] hb) fun s1 hs1=>Ok.some ⟨rfl,hs1.1,?_,?_⟩) fun _=>Ok.some ⟨rfl,h, .inl rfl,rfl⟩
    ·right
     rw [hs1.2];exact ⟨h9 hbt,rfl⟩
    ·rw [hs1.2]
  ·obtain ⟨s4,o4⟩:=r4
   obtain ⟨ho4,hs4,hv1,hv2⟩:=hr4
   dsimp only at ho4 hs4 hv1 hv2 ⊢
   subst ho4
   have h5:SI ch wd [] lks (Go.Lf.u7 s4 (([]:List Gl),s4.2.2.2.2.2.2.2.2)):=⟨hs4.mr,hs4.mn,hs4.ch,hs4.wd,hs4.mg,hs4.tb,hs4.ln,hs4.fl,hs4.ll,hs4.lo⟩
   refine Ok.bind (FM h5 hN) fun r hr=>?_
   obtain ⟨lk,s2⟩:=r
   obtain ⟨hr1,hr⟩:=hr
   dsimp only at hr hr1
   subst hr hr1
   refine Ok.ends ((Kb h5 _ (k:=8) (.inr ⟨[],rfl,by simp,by simp⟩) rfl).imp fun s' hs'=>⟨hs'.1, .inl ⟨rfl,?_,?_⟩⟩)
   ·rw [hs'.2];exact hv1
   ·rw [hs'.2]
    show (([]:List Gl),(vw s4).2.2)=_
    rw [hv2]
 ·-- the paragraph's end
  refine Ok.no (of_decide_eq_false rfl) (Ok.no (of_decide_eq_false rfl) (Ok.no (of_decide_eq_false rfl) (Ok.no (of_decide_eq_false rfl) (Ok.no (of_decide_eq_false rfl) ?_))))
  refine Ok.bind (Q:=(· =(false,(s,((9:Int),(N,(T,(W,u))))))) ) (Ok.of rfl rfl) fun r hr=>?_
  subst hr
  refine Ok.cond (fun h=>by cases h) fun _=>Ok.no (of_decide_eq_false rfl) (Ok.yes rfl ?_)
  have hks:=hne (by omega)
  unfold cO at hk
  rw [if_neg (by omega),if_neg hks,if_neg (by omega),if_neg (by omega),if_neg (by omega),if_neg (by omega),if_pos rfl] at hk
  by_cases h1:ks.length=1
  case neg=>rw [if_neg h1] at hk;cases hk
  rw [if_pos h1] at hk
  injection hk with hk
  have e8:=h.fl.one h1
  subst hk e8
  have hll:=h.ll
  have hnx:rP ch lks 9 N=[]:=by
   unfold rP
   rw [if_neg (by omega),if_neg (by omega),if_pos (by omega)]
   refine List.eq_nil_of_length_eq_zero ?_
   rw [List.length_dropLast,hll];rfl
  rw [hnx]
  refine Ok.ends ((Q8 h hw (by omega) hg hb).imp fun s' hs'=>⟨hs'.1,?_⟩)
  obtain ⟨ls,hls,hv⟩:=hs'.2
  refine .inr (.inr (.inr (.inr (.inr (.inr ⟨rfl,ls,hls,?_,?_⟩)))))
  ·rw [hv];rfl
  ·rw [hv]
end
end Go.Fn
/- A topic without lists and tables, laid out, plainly, with the looks. -/
namespace Go.Fn
open Go Go.Lf
abbrev Rc:Type:=Int×(Int×(Int×(Int×Unit)))
def Zq (ls:List (List Gl)):Prop:=ls.length≤2000∧ ∀ l∈ls,l.length≤5000
theorem OG (ls:List (List Gl)) (h:Zq ls):Ok (lM ls) fun r=>r.length≤100000000:=by
 unfold lM
 obtain ⟨h1,h2⟩:=h
 refine Ok.ends (Ok.loop (fun k (z:List Rc×Int)=> ∃ i:Nat,z.2=i∧i+k=ls.length∧z.1.length≤5000*i) (fun k z hz=>?_) ls.length _ (by omega) ⟨0,rfl,by omega,by show (0:Nat)≤_;omega⟩)
 obtain ⟨out,n⟩:=z
 obtain ⟨i,hz1,hz2,hz3⟩:=hz
 dsimp only at hz1 hz3 ⊢
 subst hz1
 refine Ok.ifs (fun hlt=>?_) fun _=>Ok.inr (by omega)
 have hi:i<ls.length:=by omega
 have hx:ls[i]? =some ls[i]:=List.getElem?_eq_getElem hi
 have hl:=h2 ls[i] (List.getElem_mem hi)
 generalize ls[i]=l at hx hl
 refine Ok.bind (Ok.bH hx) fun y hy=>?_
 subst hy
 refine Ok.bind (Q:=fun o:List Rc=>o.length≤5000*(i+1)) ?_ fun o ho=>Ok.inl ⟨k - 1,by omega,i+1,aN (by omega),by omega,ho⟩
 refine Ok.range l (by omega) (fun j (s:Int×(List Rc×Int))=>s.2.1.length≤5000*i+j∧(s.2.2≠0→0<s.2.1.length)) (fun j x s hx hs=>?_) (fun s hs=>?_) ⟨by show out.length≤_;omega,fun h=>absurd rfl h⟩
 ·obtain ⟨col,o,last⟩:=s
  obtain ⟨hs1,hs2⟩:=hs
  dsimp only at hs1 hs2 ⊢
  have hlt:=a_ hx
  refine Ok.yes (by omega) (Ok.bind (Ok.bH hx) fun y hy=>?_)
  subst hy
  refine Ok.bind (Q:=fun q:List Rc×Gl=>q.2=x∧q.1.length≤5000*i+(j+1)∧(x.2.2.2.1≠0→0<q.1.length)) ?_ fun q hq=>?_
  ·refine Ok.bind (Q:=fun q:Bool×(List Rc×Gl)=>q.2=(o,x)∧(q.1=true→x.2.2.2.1≠0∧x.2.2.2.1=last)) (Ok.ifs (fun h=>Ok.some ⟨rfl,fun h'=>⟨h,of_decide_eq_true h'⟩⟩) fun _=>Ok.some ⟨rfl,fun h=>(by cases h)⟩) fun q hq=>?_
   obtain ⟨c,q⟩:=q
   obtain ⟨rfl,hc⟩:=hq
   dsimp only
   refine Ok.cond (fun h=>?_) fun _=>Ok.ifs (fun _=>?_) fun h0=>Ok.some ⟨rfl,by show o.length≤_;omega,fun h=>absurd h h0⟩
   ·obtain ⟨hc1,hc2⟩:=hc h
    have hpos:=hs2 (by rw [← hc2];exact hc1)
    have e1:IntKind.wrap .i64 (((o.length:Nat):Int) - 1)=o.length - 1:=wrap64 (by omega) (by omega)
    refine Ok.bind (Ok.lG (Q:=fun j=>j<o.length) (by rw [e1];omega) (by rw [e1];omega) (by rw [e1];omega)) fun j1 hj1=>Ok.bind (Ok.nth (Q:=fun _=>True) hj1 trivial) fun _ _=>?_
    refine Ok.bind (Ok.lG (Q:=fun j=>j<o.length) (by rw [e1];omega) (by rw [e1];omega) (by rw [e1];omega)) fun j2 hj2=>Ok.bind (Ok.nth (Q:=fun _=>True) hj2 trivial) fun _ _=>Ok.some ⟨rfl,?_,fun _=>?_⟩
    ·show (List.set _ _ _).length≤_
     rw [List.length_set];omega
    ·show 0<(List.set _ _ _).length
     rw [List.length_set];exact hpos
   ·refine Ok.bind (Ok.jk (by simp only [List.length_cons,List.length_nil];omega)) fun o2 ho2=>Ok.some ⟨rfl,?_,fun _=>?_⟩
    ·show o2.length≤_
     rw [ho2,List.length_append];simp only [List.length_cons,List.length_nil];omega
    ·show 0<o2.length
     rw [ho2,List.length_append];simp only [List.length_cons,List.length_nil];omega
  ·obtain ⟨o2,q⟩:=q
   obtain ⟨rfl,hq1,hq2⟩:=hq
   exact Ok.inl ⟨aN (by omega),hq1,hq2⟩
 ·have hs1:=hs.1
  exact Ok.no (by show ¬ ((l.length:Int)<_);omega) (Ok.inr (by show s.2.1.length≤_;omega))
def PC (t:List UInt8) (c:LF):Prop:=1≤c.2.2.1∧c.2.2.1≤2∧c.1≠[]∧((∀ x∈sK t t.length 0,EB x=true)→c.1≠[9]∧c.1≠[10])
theorem PI (r:Int):0≤wd r∧wd r≤2:=by
 unfold wd
 split
 ·omega
 ·split<;>omega
theorem KG {t:List UInt8} {q:Nat} (hq:q<t.length):piece t (iF t q)≠[]∧(EB (iF t q)=true→piece t (iF t q)≠[9]∧piece t (iF t q)≠[10]):=by
 have hw:=Lib.decodeL_width (t.drop q)
 have hp:piece t (iF t q)=(t.drop q).take (Lib.decodeL (t.drop q)).2:=by
  unfold piece iF
  simp
 rw [hp]
 have hd:t.drop q=t[q]::t.drop (q+1):=List.drop_eq_getElem_cons hq
 obtain ⟨w,hw2⟩: ∃ w,(Lib.decodeL (t.drop q)).2=w+1:=⟨(Lib.decodeL (t.drop q)).2 - 1,by omega⟩
 have key: ∀ b:UInt8,b=9∨b=10→EB (iF t q)=true→(t.drop q).take (Lib.decodeL (t.drop q)).2≠[b]:=by
  intro b hb hok he
  rw [hw2,hd,List.take_succ_cons] at he
  injection he with he1 _
  have hdec:Lib.decodeL (t.drop q)=(b.toNat,1):=by
   rw [hd,he1]
   exact Lib.decodeL_ascii b _ (by rcases hb with rfl | rfl<;>decide)
  unfold EB at hok
  rw [Bool.and_eq_true] at hok
  have h2:ctl (iF t q).1=false:=by simpa using hok.2
  have h1:(iF t q).1=(b.toNat:Int):=by
   show ((Lib.decodeL (t.drop q)).1:Int)=_
   rw [hdec]
  rw [h1] at h2
  rcases hb with rfl | rfl<;>exact absurd h2 (by decide)
 refine ⟨fun he=>?_,fun hok=>⟨key 9 (.inl rfl) hok,key 10 (.inr rfl) hok⟩⟩
 rw [hw2,hd,List.take_succ_cons] at he
 cases he
theorem DW (t:List UInt8): ∀ c∈cellsS t,PC t c:=by
 have key: ∀ (l:List Eg) (acc:List LF),(∀ x∈l,x∈sK t t.length 0)→(∀ c∈acc,PC t c)→ ∀ c∈l.foldl (xA t) acc,PC t c:=by
  intro l
  induction l with
  | nil=>intro acc _ h;exact h
  | cons x r ih=>
   intro acc hx hacc
   rw [List.foldl_cons]
   refine ih _ (fun y hy=>hx y (List.mem_cons_of_mem _ hy)) fun c hc=>?_
   have hxm:=hx x List.mem_cons_self
   obtain ⟨i,hi,hie⟩:=List.getElem_of_mem hxm
   obtain ⟨q,hq,hql⟩:=Kg (l:=t) (i:=i) (c:=x) (by rw [List.getElem?_eq_getElem hi,hie])
   have hpf:=KG hql
   rw [← hq] at hpf
   unfold xA at hc
   split at hc
   ·rename_i h0
    have hlt:acc.length - 1<acc.length:=by omega
    rcases List.mem_or_eq_of_mem_set hc with hc | hc
    ·exact hacc c hc
    ·rw [hc,getD_at hlt]
     obtain ⟨h1,h2,h3,_⟩:=hacc _ (List.getElem_mem hlt)
     have hl: ∀ b:UInt8,acc[acc.length - 1].1++piece t x≠[b]:=fun b he=>by
      have hlen:=congrArg List.length he
      rw [List.length_append] at hlen
      have h4:=List.length_pos_iff.2 h3
      have h5:=List.length_pos_iff.2 hpf.1
      simp only [List.length_cons,List.length_nil] at hlen
      omega
     exact ⟨h1,h2,fun he=>h3 (List.append_eq_nil_iff.1 he).1,fun _=>⟨hl 9,hl 10⟩⟩
   ·rcases List.mem_append.1 hc with hc | hc
    ·exact hacc c hc
    ·rw [List.mem_singleton.1 hc]
     have hr:=PI x.1
     exact ⟨by dsimp only;omega,by dsimp only;omega,hpf.1,fun h=>hpf.2 (h x hxm)⟩
 exact key _ [] (fun _ h=>h) (by simp)
structure GI (i:Nat) (tt:Int) (v:Vw):Prop where
 nl:v.1.1.length≤2000
 ll: ∀ x∈v.1.1,LW 200 x
 fl:(v.2.1.length:Int)≤tt+i
 fg: ∀ g∈v.2.1,il g=3→GW g∧g.1≠[]
 lk:v.2.2.2.length≤i
theorem Fp {ls:List (List Gl)} (h: ∀ x∈ls,LW 200 x): ∀ (p:List (List Gl)×Bool),p.1.length≤2000→(∀ x∈p.1,LW 200 x)→(ls.foldl l7 p).1.length≤2000∧ ∀ x∈(ls.foldl l7 p).1,LW 200 x:=by
 induction ls with
 | nil=>intro p h1 h2;exact ⟨h1,h2⟩
 | cons a r ih=>
  intro p h1 h2
  rw [List.foldl_cons]
  refine ih (fun x hx=>h x (List.mem_cons_of_mem _ hx)) _ (Ap p a h1) fun x hx=>?_
  unfold l7 at hx
  split at hx
  ·exact h2 x hx
  ·rcases List.mem_append.1 hx with hx | hx
   ·exact h2 x hx
   ·rw [List.mem_singleton.1 hx];exact h a List.mem_cons_self
theorem GI.step {i:Nat} {tt wd last:Int} {ks:List Int} {lks:List wU} {o:mF} {v v':Vw} (h:GI i tt v) (htt:tt≤1000000) (hi:i≤1000000) (he:PS wd ks lks last o v v'):GI (i+1) (tt+o.2.2.1.length) v':=by
 have hfl:=h.fl
 have hlk:=h.lk
 rcases he with ⟨_,h1,h2⟩ | ⟨_,rfl⟩ | ⟨_,lk,b,hb,rfl⟩ | ⟨_,rfl⟩ | ⟨_,t,rfl⟩ | ⟨_,rfl⟩ | ⟨_,ls,⟨r,hr,hrl⟩,h1,h2⟩
 ·refine { nl:=?_,ll:=?_,fl:=by rw [h2];simp only [List.length_nil];omega,fg:=by rw [h2];simp,lk:=by rw [h2];show v.2.2.2.length≤_;omega }
  ·rcases h1 with h1 | ⟨_,h1⟩
   ·rw [h1];exact h.nl
   ·rw [h1];exact Ap _ _ h.nl
  ·rcases h1 with h1 | ⟨_,h1⟩
   ·rw [h1];exact h.ll
   ·rw [h1];exact (Fp (ls:=[[]]) (by intro x hx;rw [List.mem_singleton.1 hx];exact LW.nil (by omega)) _ h.nl h.ll).2
 ·refine { nl:=h.nl,ll:=h.ll,fl:=?_,fg:=fun g hg=>?_,lk:=by show v.2.2.2.length≤_;omega }
  ·have:=tL o.2.2.1
   rw [List.length_append,List.length_map]
   omega
  ·rcases List.mem_append.1 hg with hg | hg
   ·exact h.fg g hg
   ·obtain ⟨c,hc,rfl⟩:=List.mem_map.1 hg
    obtain ⟨h1,h2,h3,_⟩:=DW _ c hc
    exact fun _=>⟨⟨h1,h2⟩,h3⟩
 ·refine { nl:=h.nl,ll:=h.ll,fl:=by rw [List.length_append];simp only [List.length_cons,List.length_nil];omega,fg:=fun g hg=>?_,lk:=by show v.2.2.2.length≤_;omega }
  rcases List.mem_append.1 hg with hg | hg
  ·exact h.fg g hg
  ·rw [List.mem_singleton.1 hg]
   exact fun _=>⟨⟨Int.le_refl _,by show (1:Int)≤2;omega⟩,by simp⟩
 ·exact ⟨h.nl,h.ll,by omega,h.fg,by omega⟩
 ·exact ⟨h.nl,h.ll,by show (v.2.1.length:Int)≤_;omega,h.fg,by show (v.2.2.2++[t]).length≤_;rw [List.length_append];simp only [List.length_cons,List.length_nil];omega⟩
 ·exact ⟨h.nl,h.ll,by show (v.2.1.length:Int)≤_;omega,h.fg,by show v.2.2.2.length≤_;omega⟩
 ·obtain ⟨r',hr',hq⟩:=Lj (l:=v.2.1) (w:=wd) (by omega)
  rw [hr] at hr'
  injection hr' with hr'
  subst hr'
  have hls: ∀ x∈ls,LW 200 x:=fun x hx=>by
   rw [← hrl] at hx
   obtain ⟨q1,_,q3⟩:=hq.2 x hx
   exact q1.mono q3
  have hti:=Fp hls v.1 h.nl h.ll
  refine { nl:=by rw [h1];exact hti.1,ll:=by rw [h1];exact hti.2,fl:=by rw [h2];omega,fg:=by rw [h2];exact h.fg,lk:=by rw [h2];omega }
def vI (ch:List zS) (l:List mF):Nat→List wU
 | 0=>[]
 | i+1=>match l[i]? with
  | some o=>rP ch (vI ch l i) o.1 o.2.1
  | none=>vI ch l i
def SK (sheet:List p9) (ch:List zS):Prop:=ch.length=sheet.length∧ ∀ (i:Nat) c,ch[i]? =some c→ ∃ st e,sheet[i]? =some st∧ig sheet st.1=some (c,e)
theorem JB (C:List zS→Nat→Vw→Prop) {sheet:List p9} {l:List mF} {topics wd:Int} (hl:l.length≤3000) (hf: ∀ o∈l,o.1<10) (hT: ∀ o∈l,o.2.2.1.length≤140737488355328)
  (h0: ∀ ch,C ch 0 (([],false),([],(0,[])))) (hs:10≤wd∧wd≤200→VW sheet.length topics l→gY l≤16384→ ∀ ch,SK sheet ch→ ∀ i o v v',l[i]? =some o→C ch i v→GI i (gY (l.take i)) v→PS wd (xE l i) (vI ch l i) (lW l i) o v v'→C ch (i+1) v'):
  Ok (kF sheet l topics wd) fun r=>((10≤wd∧wd≤200∧sheet=[]∧VW sheet.length topics l∧gY l≤16384∧topics≤1000)→r.2=0)∧
   (r.2=0→VW sheet.length topics l∧gY l≤16384∧(10≤wd∧wd≤200)∧topics≤1000∧(∃ n,bE sheet=some (n,0))∧ ∃ ch,SK sheet ch∧ ∃ v,C ch l.length v∧GI l.length (gY l) v∧r.1.1=v.1.1∧r.1.2.2.2.1=v.1.2∧r.1.2.2.1=v.2.2.2):=by
 unfold kF
 refine Ok.bind (Q:=fun q=>(q.1=false→10≤wd∧wd≤200)∧(q.1=true→ ¬ (10≤wd∧wd≤200))) ?_ fun q hq=>?_
 ·cases h1:decide (wd<10) with
  | true=>
   have h1:=of_decide_eq_true h1
   exact Ok.some ⟨fun h=>(by cases h),fun _=>by omega⟩
  | false=>
   have h1:=of_decide_eq_false h1
   exact Ok.some ⟨fun h=>by have:=of_decide_eq_false h;omega,fun h=>by have:=of_decide_eq_true h;omega⟩
 refine Ok.cond (fun hb=>Ok.some ⟨fun h=>absurd ⟨h.1,h.2.1⟩ (hq.2 hb),fun h=>(by cases h)⟩) fun hb=>?_
 have hw:=hq.1 hb
 obtain ⟨sc,hsc,hsq⟩:=EH sheet
 rw [hsc,Option.bind_some]
 refine Ok.ifs (fun hne=>Ok.some ⟨fun h=>?_,fun h=>absurd h hne⟩) fun h0s=>?_
 ·exfalso
  have h3:=h.2.2.1
  subst h3
  have:=Sm
  rw [hsc] at this
  injection this with this
  exact hne (by rw [this])
 have hs64:=(hsq (by omega)).1
 obtain ⟨ic,hic,hiq⟩:=KP (ns:=sheet.length) (nt:=topics) hl hf hT
 rw [hic,Option.bind_some]
 refine Ok.ifs (fun hne=>Ok.some ⟨fun h=>absurd (hiq.2 h.2.2.2.1 h.2.2.2.2.1) hne,fun h=>absurd h hne⟩) fun h0i=>?_
 obtain ⟨hV,htot⟩:=hiq.1 (by omega)
 refine Ok.ifs (fun htp=>Ok.some ⟨fun h=>absurd h.2.2.2.2.2 (by omega),fun h=>(by cases h)⟩) fun htp=>?_
 refine Ok.bind (Q:=fun r=> ∃ ch:List zS,SK sheet ch∧SI ch wd [] [] r.1∧vw r.1=(([],false),([],(0,[])))) ?_ fun r8 hr8=>?_
 ·refine Ok.range sheet (by omega) (fun i r=> ∃ ch:List zS,(ch.length=i∧ ∀ (j:Nat) c,ch[j]? =some c→ ∃ st e,sheet[j]? =some st∧ig sheet st.1=some (c,e))∧SI ch wd [] [] r.1∧vw r.1=(([],false),([],(0,[])))) (fun i x r hx hr=>?_) (fun r hr=>?_) ⟨[],⟨rfl,fun j c h=>(by simp at h)⟩,⟨rfl,rfl,rfl,rfl,rfl,rfl,fun i k h=>(by simp at h), .inl rfl,rfl,fun i k h=>(by simp at h)⟩,rfl⟩
  ·obtain ⟨ch,⟨hch,hchw⟩,hSI,hv⟩:=hr
   have hlt:=a_ hx
   have hcc:=hSI.ch
   refine Ok.yes (by show (i:Int)<_;omega) (Ok.bind (Ok.bH hx) fun y hy=>?_)
   subst hy
   obtain ⟨c,hc,_⟩:=Fa sheet hs64 x.1
   rw [hc,Option.bind_some]
   refine Ok.bind (Ok.jk (by rw [hcc];simp only [List.length_cons,List.length_nil];omega)) fun ls hls=>Ok.inl ⟨aN (by omega),ls,⟨?_,fun j c' hj=>?_⟩,⟨hSI.mr,hSI.mn,rfl,hSI.wd,hSI.mg,hSI.tb,hSI.ln,hSI.fl,hSI.ll,hSI.lo⟩,hv⟩
   ·rw [hls,hcc,List.length_append,hch];rfl
   ·rw [hls,hcc] at hj
    by_cases hji:j<ch.length
    ·rw [List.getElem?_append_left hji] at hj
     exact hchw j c' hj
    ·have hjl:=a_ hj
     rw [List.length_append] at hjl
     simp only [List.length_cons,List.length_nil] at hjl
     have hje:j=i:=by omega
     subst hje
     rw [List.getElem?_append_right (by omega),hch,Nat.sub_self] at hj
     have hj:c.1=c':=by simpa using hj
     exact ⟨x,c.2,hx,by rw [hc, ← hj]⟩
  ·exact Ok.no (by show ¬ ((sheet.length:Int)<_);omega) (Ok.inr hr)
 obtain ⟨ch,hCh,hSI,hv⟩:=hr8
 have hch:=hCh.1
 refine Ok.bind (Q:=fun r:iI×Sx=>C ch l.length (vw r.2)∧GI l.length (gY l) (vw r.2)) ?_ fun r12 hr12=>?_
 ·refine Ok.range l (by omega) (fun i (z:Int×(Sx×iI))=>z.1=lW l i∧SI ch wd (xE l i) (vI ch l i) z.2.1∧C ch i (vw z.2.1)∧GI i (gY (l.take i)) (vw z.2.1)) (fun i o z ho hz=>?_) (fun z hz=>?_) ⟨rfl,hSI,by rw [hv];exact h0 ch,by rw [hv];exact ⟨by simp,by simp,by simp [gY],by simp,by simp⟩⟩
  ·obtain ⟨hz0,hz1,hz2,hz3⟩:=hz
   have hlt:=a_ ho
   have hlo:lW l (i+1)=o.1:=by show (match l[i]? with | some o=>_ | none=>_)=_;rw [ho]
   have hlk1:vI ch l (i+1)=rP ch (vI ch l i) o.1 o.2.1:=by show (match l[i]? with | some o=>_ | none=>_)=_;rw [ho]
   refine Ok.yes (by show (i:Int)<_;omega) (Ok.bind (Ok.bH ho) fun y hy=>?_)
   subst hy
   obtain ⟨hF,hk⟩:=hV.1 i o ho
   rw [← hch] at hF
   have ht1:=wP (l:=l) i
   have hfl:=hz3.fl
   have hfl:((oQ z.2.1).length:Int)≤gY (l.take i)+i:=hfl
   have hlk:=hz3.lk
   have hlk:(D6 z.2.1).length≤i:=hlk
   rw [hz0]
   refine Ok.bind (Va hz1 (last:=lW l i) hF hk ⟨by omega,hw.2⟩ (by have:=wK (fQ ho);omega) (by omega) hz3.fg hz3.nl (by omega)) fun s' hs'=>Ok.inl ⟨aN (by omega),hlo.symm,by rw [hlk1];exact hs'.1,hs hw hV htot ch hCh i o _ _ ho hz2 hz3 hs'.2,?_⟩
   rw [qm ho]
   exact hz3.step (by omega) (by omega) hs'.2
  ·rw [List.take_length] at hz
   exact Ok.no (by show ¬ ((l.length:Int)<_);omega) (Ok.inr hz.2.2)
 ·obtain ⟨hC,hG⟩:=hr12
  have hLn:Zq (sL r12.2):=⟨hG.nl,fun x hx=>by have:=(hG.ll x hx).len;omega⟩
  refine Ok.bind (OG (sL r12.2) hLn) fun rr _=>Ok.some ⟨fun _=>rfl,fun _=>⟨hV,htot,hw,(by omega),⟨sc.1,by rw [← show sc.2=0 by omega]⟩,ch,hCh,vw r12.2,hC,hG,rfl,rfl,rfl⟩⟩
end Go.Fn
/- What the looks come to: each sign has the look that is on top where its text stands. -/
namespace Go.Fn
open Go Go.Lf
def NM (g:Gl):wU:=g.2.2.1
def VD (t:List UInt8):List LF:=(cellsS t).filter fun c=>decide (c.1≠[32])
def CS (ch:List zS) (l:List mF):Nat→List wU
 | 0=>[]
 | i+1=>match l[i]? with
  | none=>CS ch l i
  | some o=>if o.1=1 then CS ch l i++(VD o.2.2.1).map (fun _=>rq (vI ch l i)) else CS ch l i
theorem QO {ch:List zS} {l:List mF} {i:Nat} {o:mF} (h:l[i]? =some o):CS ch l (i+1)=if o.1=1 then CS ch l i++(VD o.2.2.1).map (fun _=>rq (vI ch l i)) else CS ch l i:=by
 show (match l[i]? with | none=>_ | some o=>_)=_
 rw [h]
theorem S_ {ch:List zS} {l:List mF} {i:Nat} {o:mF} (h:l[i]? =some o):vI ch l (i+1)=rP ch (vI ch l i) o.1 o.2.1:=by
 show (match l[i]? with | some o=>_ | none=>_)=_
 rw [h]
theorem b_ {ks ks':List Int} {k:Int} (h:cO ks k=some ks'):(k=8∧ks=[]∧ks'=[8])∨((k=1∨k=6∨k=7)∧ks≠[]∧ks'=ks)∨((k=2∨k=3∨k=4)∧ks≠[]∧ks.length≤16∧ks'=ks++[k])∨(k=5∧2≤ks.length∧ks'=ks.dropLast)∨(k=9∧ks.length=1∧ks'=[]):=by
 unfold cO at h
 by_cases h8:k=8
 ·rw [if_pos h8] at h
  by_cases hn:ks=[]
  ·rw [if_pos hn] at h
   injection h with h
   exact .inl ⟨h8,hn,h.symm⟩
  ·rw [if_neg hn] at h;cases h
 rw [if_neg h8] at h
 by_cases hn:ks=[]
 ·rw [if_pos hn] at h;cases h
 rw [if_neg hn] at h
 by_cases h1:k=1∨k=6∨k=7
 ·rw [if_pos h1] at h
  injection h with h
  exact .inr (.inl ⟨h1,hn,h.symm⟩)
 rw [if_neg h1] at h
 by_cases h2:k=2
 ·rw [if_pos h2] at h
  by_cases h16:ks.length≤16
  ·rw [if_pos h16] at h
   injection h with h
   exact .inr (.inr (.inl ⟨.inl h2,hn,h16,by rw [h2];exact h.symm⟩))
  ·rw [if_neg h16] at h;cases h
 rw [if_neg h2] at h
 by_cases h3:k=3∨k=4
 ·rw [if_pos h3] at h
  by_cases h16:(∀ j∈ks,j≠3∧j≠4)∧ks.length≤16
  ·rw [if_pos h16] at h
   injection h with h
   exact .inr (.inr (.inl ⟨.inr h3,hn,h16.2,h.symm⟩))
  ·rw [if_neg h16] at h;cases h
 rw [if_neg h3] at h
 by_cases h5:k=5
 ·rw [if_pos h5] at h
  by_cases h6:2≤ks.length
  ·rw [if_pos h6] at h
   injection h with h
   exact .inr (.inr (.inr (.inl ⟨h5,h6,h.symm⟩)))
  ·rw [if_neg h6] at h;cases h
 rw [if_neg h5] at h
 by_cases h9:k=9
 ·rw [if_pos h9] at h
  by_cases h6:ks.length=1
  ·rw [if_pos h6] at h
   injection h with h
   exact .inr (.inr (.inr (.inr ⟨h9,h6,h.symm⟩)))
  ·rw [if_neg h6] at h;cases h
 rw [if_neg h9] at h;cases h
theorem vV: ∀ (ls:List (List Gl)) (p:List (List Gl)×Bool),(ls.foldl l7 p).2=false→p.2=false∧(ls.foldl l7 p).1=p.1++ls
 | [],p,h=>⟨h,by simp⟩
 | a::r,p,h=>by
  rw [List.foldl_cons] at h ⊢
  obtain ⟨h1,h2⟩:=vV r _ h
  unfold l7 at h1
  split at h1
  ·cases h1
  ·rename_i hc
   refine ⟨h1,?_⟩
   rw [h2]
   unfold l7
   rw [if_neg hc,List.append_assoc];rfl
theorem PN (l m:List Gl):s3 (l++m)=s3 l++s3 m:=List.filter_append ..
theorem M9 {t:List UInt8} (hok: ∀ c∈sK t t.length 0,EB c=true) (lk:wU) (n:Int):(s3 ((cellsS t).map (Ez lk n))).map NM=(VD t).map fun _=>lk:=by
 have hf:=DW t
 unfold s3 VD
 rw [List.filter_map,List.map_map]
 have e:(cellsS t).filter ((fun g=>decide (il g=3)) ∘ Ez lk n)=(cellsS t).filter fun c=>decide (c.1≠[32]):=by
  refine List.filter_congr fun c hc=>?_
  obtain ⟨_,_,_,h4⟩:=hf c hc
  obtain ⟨h9,h10⟩:=h4 hok
  show decide (il (Ez lk n c)=3)=_
  refine decide_eq_decide.2 ?_
  unfold il
  show (if c.1=[32] then (0:Int) else if c.1=[9] then 1 else if c.1=[10] then 2 else 3)=3↔_
  by_cases h32:c.1=[32]
  ·rw [if_pos h32];simp [h32]
  ·rw [if_neg h32,if_neg h9,if_neg h10];simp [h32]
 rw [e]
 rfl
def CL (l:List mF) (ch:List zS) (i:Nat) (v:Vw):Prop:=v.1.2=false→(sg v.1.1.flatten).map NM++(if xE l i=[] then [] else (s3 v.2.1).map NM)=CS ch l i
theorem CL.step {ns nt wd:Int} {ch:List zS} {l:List mF} {i:Nat} {o:mF} {v v':Vw} (hw:10≤wd∧wd≤200) (hV:VW ns nt l) (ho:l[i]? =some o) (hT:o.2.2.1.length≤1048576) (hi:i≤3000) (htt:gY (l.take i)≤1000000) (h3:CL l ch i v) (hG:GI i (gY (l.take i)) v) (hE:PS wd (xE l i) (vI ch l i) (lW l i) o v v'):CL l ch (i+1) v':=by
 obtain ⟨hF,hk⟩:=hV.1 i o ho
 have hls:=QO (ch:=ch) ho
 intro hm
 rcases b_ hk with ⟨k8,e0,e1⟩ | ⟨k1,e0,e1⟩ | ⟨k2,e0,_,e1⟩ | ⟨k5,e0,e1⟩ | ⟨k9,e0,e1⟩
 ·rw [if_neg (by omega)] at hls
  rcases hE with ⟨_,hv1,hv2⟩ | ⟨h,_⟩ | ⟨h,_⟩ | ⟨h,_⟩ | ⟨h,_⟩ | ⟨h,_⟩ | ⟨h,_⟩
  ·unfold CL at h3
   rw [hls,hv2,e1]
   rw [e0,if_pos rfl] at h3
   rw [if_neg (by simp)]
   show _++(s3 []).map NM=_
   rcases hv1 with hv1 | ⟨_,hv1⟩
   ·rw [hv1] at hm ⊢
    exact h3 hm
   ·obtain ⟨q1,q2⟩:=vV [[]] v.1 (by rw [hv1] at hm;exact hm)
    have q2:(l7 v.1 []).1=v.1.1++[[]]:=q2
    rw [hv1,q2]
    have e:(v.1.1++[[]]).flatten=v.1.1.flatten:=by simp
    rw [e]
    exact h3 q1
  all_goals omega
 ·rcases hE with ⟨h,_⟩ | ⟨k1',rfl⟩ | ⟨k6,lk,b,hb,rfl⟩ | ⟨h,_⟩ | ⟨h,_⟩ | ⟨h,_⟩ | ⟨h,_⟩
  ·omega
  ·have hp:Xx o.2.2.1=true:=by
    obtain ⟨_,q | q | q | q | q⟩:=hF
    ·exact q.2.2.1
    all_goals omega
   obtain ⟨b,_,hb2,hb3,_⟩:=O_ o.2.2.1 (by omega)
   obtain ⟨_,hok⟩:=hb3 (by rw [hb2];exact hp)
   rw [if_pos k1'] at hls
   rw [hls,e1,if_neg e0]
   have:=h3 hm
   rw [if_neg e0] at this
   show _++(s3 (v.2.1++_)).map NM=_
   rw [PN,List.map_append,M9 hok, ← List.append_assoc,this]
  ·rw [if_neg (by omega)] at hls
   rw [hls,e1,if_neg e0]
   have:=h3 hm
   rw [if_neg e0] at this
   show _++(s3 (v.2.1++[_])).map NM=_
   have e:s3 [(([b],((1:Int),(lk,(v.2.2.1,())))):Gl)]=[]:=by
    rcases hb with rfl | rfl<;>rfl
   rw [PN,e,List.append_nil];exact this
  all_goals omega
 ·rw [if_neg (by omega)] at hls
  rw [hls,e1,if_neg (by simp)]
  rcases hE with ⟨h,_⟩ | ⟨h,_⟩ | ⟨h,_⟩ | ⟨k2',rfl⟩ | ⟨k3,t,rfl⟩ | ⟨h,_⟩ | ⟨h,_⟩
  ·omega
  ·omega
  ·omega
  ·have:=h3 hm
   rw [if_neg e0] at this
   exact this
  ·have:=h3 hm
   rw [if_neg e0] at this
   exact this
  all_goals omega
 ·rw [if_neg (by omega)] at hls
  rcases hE with ⟨h,_⟩ | ⟨h,_⟩ | ⟨h,_⟩ | ⟨h,_⟩ | ⟨h,_⟩ | ⟨_,rfl⟩ | ⟨h,_⟩
  ·omega
  ·omega
  ·omega
  ·omega
  ·omega
  ·rw [hls,e1]
   have:=h3 hm
   rw [if_neg (fun e=>by rw [e] at e0;simp at e0)] at this
   show (sg v.1.1.flatten).map NM++(if (xE l i).dropLast=[] then [] else (s3 v.2.1).map NM)=CS ch l i
   rw [if_neg (fun e=>by have:=congrArg List.length e;rw [List.length_dropLast] at this;simp only [List.length_nil] at this;omega)]
   exact this
  ·omega
 ·rw [if_neg (by omega)] at hls
  rcases hE with ⟨h,_⟩ | ⟨h,_⟩ | ⟨h,_⟩ | ⟨h,_⟩ | ⟨h,_⟩ | ⟨h,_⟩ | ⟨_,ls,⟨q,hq,hqs⟩,hv1,hv2⟩
  ·omega
  ·omega
  ·omega
  ·omega
  ·omega
  ·omega
  ·rw [hv1] at hm ⊢
   obtain ⟨q1,q2⟩:=vV ls v.1 hm
   have hfl:=hG.fl
   obtain ⟨q',hq',_,hsg,_⟩:=QM (l:=v.2.1) (w:=wd) (by omega) (by omega) hw.2 hG.fg
   rw [hq] at hq'
   injection hq' with hq'
   subst hq'
   have:=h3 q1
   rw [if_neg (fun e=>by rw [e] at e0;simp at e0)] at this
   rw [hls,e1,if_pos rfl,List.append_nil,q2,List.flatten_append,yI,List.map_append, ← hqs,hsg]
   exact this
theorem GH (ch:List zS) {l:List mF}: ∀ i,i≤l.length→((CS ch l i).length:Int)≤gY (l.take i)
 | 0,_=>by simp [CS,gY]
 | i+1,h=>by
  have ih:=GH ch (l:=l) i (by omega)
  obtain ⟨o,ho⟩: ∃ o,l[i]? =some o:=⟨_,List.getElem?_eq_getElem (by omega)⟩
  rw [QO ho,qm ho]
  have h1:=tL o.2.2.1
  have h2:(VD o.2.2.1).length≤(cellsS o.2.2.1).length:=List.length_filter_le ..
  split
  ·rw [List.length_append,List.length_map];omega
  ·omega
theorem K3 {ns nt:Int} {ch:List zS} {l:List mF} (hV:VW ns nt l): ∀ i,i≤l.length→(vI ch l i).length=(xE l i).length
 | 0,_=>rfl
 | i+1,h=>by
  have ih:=K3 (ch:=ch) hV i (by omega)
  obtain ⟨o,ho⟩: ∃ o,l[i]? =some o:=⟨_,List.getElem?_eq_getElem (by omega)⟩
  obtain ⟨_,hk⟩:=hV.1 i o ho
  rw [S_ ho]
  unfold rP
  rcases b_ hk with ⟨k8,e0,e1⟩ | ⟨k1,e0,e1⟩ | ⟨k2,e0,_,e1⟩ | ⟨k5,e0,e1⟩ | ⟨k9,e0,e1⟩<;>rw [e1]
  ·rw [if_pos (.inl k8),List.length_append,ih,e0];rfl
  ·rw [if_neg (by omega),if_neg (by omega),if_neg (by omega)];exact ih
  ·by_cases h2:o.1=2
   ·rw [if_pos (.inr h2),List.length_append,List.length_append,ih];rfl
   ·rw [if_neg (by omega),if_pos (by omega),List.length_append,List.length_append,ih];rfl
  ·rw [if_neg (by omega),if_neg (by omega),if_pos (.inl k5),List.length_dropLast,List.length_dropLast,ih]
  ·rw [if_neg (by omega),if_neg (by omega),if_pos (.inr k9),List.length_dropLast,ih,e0];rfl
end Go.Fn
/- The document's checker on operations without lists and tables: what may be passes. -/
namespace Go.Fn
open Go Go.Lf
theorem KR (l:List UInt8) (hl:l.length≤1000000000) (hok: ∀ c∈sK l l.length 0,EB c=true):Ok (jL l) fun r=>r.2=true:=by
 unfold jL
 rw [Ij l hl,Option.bind_some]
 have hFl:=De l l.length 0
 have hm:= @Kg l
 generalize sK l l.length 0=F at*
 refine Ok.bind (Q:=fun d=>d= .inl ()) ?_ fun d hd=>by subst hd;exact Ok.some rfl
 refine Ok.kr F (by omega) (fun _=>True) (fun i c hc _=>?_) (fun _=>Ok.no (by show ¬ ((F.length:Int)<_);omega) (Ok.inr rfl)) trivial
 have hlt:=a_ hc
 obtain ⟨q,hq,hql⟩:=hm hc
 refine Ok.yes (by show (i:Int)<_;omega) ?_
 have hcx:dR c.1=some (ctl c.1):=K5 _ (by rw [hq];exact Int.natCast_nonneg _)
 rw [show idx F (i:Int)=some c by rw [zJ,hc]]
 simp only [Option.bind_some,hcx,IW]
 have hc1:=hok c (fQ hc)
 unfold EB at hc1
 rw [Bool.and_eq_true] at hc1
 refine Ok.cond (fun h=>?_) fun _=>Ok.inl ⟨aN (by omega),trivial⟩
 rcases Bool.or_eq_true _ _▸h with h | h
 ·have:=hc1.1;rw [h] at this;cases this
 ·have:=hc1.2;rw [h] at this;cases this
theorem Jz {ns nt last:Int} {o:mF} (hF:Bd ns nt last o) (hT:o.2.2.1.length≤1000000000):Ok (jb o ns nt) fun r=>r=true:=by
 obtain ⟨k,N,T,W,u⟩:=o
 dsimp only at hT
 have hkk:=hF.kind
 dsimp only at hkk
 obtain ⟨hW,h⟩:=hF
 dsimp only at hW h
 subst hW
 unfold jb
 refine Ok.bind (Q:=fun r=>r=(false,(k,(N,(T,(([]:List Int),u)))))) ?_ fun r hr=>?_
 ·refine Ok.ifs (fun h1=>?_) fun h1=>?_
  ·have h1:k≠1:=h1
   have hTn:T=[]:=by
    rcases h with h | h | h | h | h
    ·exact absurd h.1 h1
    ·exact h.2.2.2
    ·exact h.2.2.2
    ·exact h.2.2.2
    ·exact h.2.2
   subst hTn
   refine Ok.cond (fun _=>Ok.yes (by show k≠12;omega) (Ok.some rfl)) fun h=>(by cases h)
  ·refine Ok.yes (by show k≠12;omega) (Ok.some rfl)
 subst hr
 refine Ok.cond (fun h=>by cases h) fun _=>?_
 dsimp only
 refine Ok.ifs (fun h1=>?_) fun h1=>?_
 ·have h1:k=1:=h1
  rcases h with h | h | h | h | h
  ·obtain ⟨b,_,hb2,hb3,_⟩:=O_ T (by omega)
   obtain ⟨hne,hok⟩:=hb3 (by rw [hb2];exact h.2.2.1)
   refine Ok.bind (KR T (by omega) hok) fun r hr=>Ok.ends ?_
   rw [hr]
   refine Ok.cond (fun _=>Ok.yes hne (Ok.some (decide_eq_true h.2.1))) fun h=>(by cases h)
  all_goals omega
 have h1: ¬ k=1:=h1
 refine Ok.ifs (fun h2=>?_) fun h2=>?_
 ·have h2:k=2:=h2
  rcases h with h | h | h | h | h
  ·omega
  ·exact Ok.ends (Ok.yes h.2.1 (Ok.some (decide_eq_true h.2.2.1)))
  all_goals omega
 have h2: ¬ k=2:=h2
 refine Ok.bind (Q:=fun r=>r.2=(k,(N,(T,(([]:List Int),u))))∧(r.1=true↔(k=3∨k=4))) ?_ fun r hr=>?_
 ·refine Ok.ifs (fun h3=>Ok.some ⟨rfl,fun _=> .inl h3,fun _=>decide_eq_true h3⟩) fun h3=>Ok.some ⟨rfl,fun h=> .inr (of_decide_eq_true h),fun h=>decide_eq_true (h.resolve_left h3)⟩
 obtain ⟨b,r⟩:=r
 obtain ⟨hr,hb⟩:=hr
 dsimp only at hr hb ⊢
 subst hr
 dsimp only
 refine Ok.cond (fun hbt=>?_) fun hbf=>?_
 ·have h3:=hb.1 hbt
  rcases h with h | h | h | h | h
  ·omega
  ·omega
  ·exact Ok.ends (Ok.yes h.2.1 (Ok.some (decide_eq_true h.2.2.1)))
  all_goals omega
 have h34: ¬ (k=3∨k=4):=fun h=>by rw [hb.2 h] at hbf;cases hbf
 refine Ok.ifs (fun h8=>?_) fun h8=>?_
 ·have h8:k=8:=h8
  rcases h with h | h | h | h | h
  ·omega
  ·omega
  ·omega
  ·exact Ok.ends (Ok.yes h.2.1 (Ok.some (decide_eq_true h.2.2.1)))
  ·omega
 have h8: ¬ k=8:=h8
 refine Ok.no (by show ¬ k=10;omega) (Ok.no (by show ¬ k=12;omega) (Ok.ends (Ok.yes (by show (5:Int)≤k;omega) (Ok.yes (by show k≤14;omega) (Ok.some (decide_eq_true ?_))))))
 rcases h with h | h | h | h | h
 ·omega
 ·omega
 ·omega
 ·omega
 ·exact h.2.1
abbrev Z0:Type:=Bool×(Int×(Int×(Int×(Int×Unit))))
abbrev Zu:Type:=(Bool×(List Bool×(List Z0×(Bool×Unit))))×Unit
def Bi (ks:List Int):List Bool:=ks.tail.map fun k=>decide (k≠2)
theorem RL (ks:List Int):(Bi ks).length=ks.length - 1:=by unfold Bi;rw [List.length_map,List.length_tail]
def He (ks:List Int) (b:Bool):Zu:=((decide (ks≠[]),(Bi ks,([],(b,())))),())
theorem Ng (s:Zu) (hs:s.1.2.1.length≤100) (h: ∀ b∈s.1.2.1,b=false):Ok (cZ s) fun r=>r=(false,s):=by
 unfold cZ
 refine Ok.bind (Q:=fun d=>d= .inl s) ?_ fun d hd=>by subst hd;exact Ok.some rfl
 refine Ok.range s.1.2.1 (by omega) (fun _ z=>z=s) (fun i b z hb hz=>?_) (fun z hz=>?_) rfl
 ·have hlt:=a_ hb
  subst hz
  refine Ok.yes (by show (i:Int)<_;omega) (Ok.bind (Ok.DK hlt) fun j hj=>?_)
  subst hj
  have hbv:=(List.getElem?_eq_some_iff.1 hb).2
  refine Ok.bind (Ok.nth (Q:=fun x=>x=false) hlt (by rw [hbv];exact h b (fQ hb))) fun x hx=>?_
  subst hx
  exact Ok.inl ⟨aN (by omega),rfl⟩
 ·subst hz
  exact Ok.no (by show ¬ (((z.1.2.1).length:Int)<_);omega) (Ok.inr rfl)
theorem MB {ks:List Int} (hf:FP ks) (h: ∀ j∈ks,j≠3∧j≠4): ∀ b∈Bi ks,b=false:=by
 intro b hb
 rcases hf with rfl | ⟨r,rfl,hr,_⟩
 ·simp [Bi] at hb
 ·unfold Bi at hb
  obtain ⟨k,hk,rfl⟩:=List.mem_map.1 hb
  have hk:k∈r:=hk
  have h1:=hr k hk
  have h2:=h k (List.mem_cons_of_mem _ hk)
  refine decide_eq_false ?_
  omega
theorem SH {ks:List Int} (h:ks≠[]) (k:Int):Bi (ks++[k])=Bi ks++[decide (k≠2)]:=by
 unfold Bi
 rw [List.tail_append_of_ne_nil h,List.map_append];rfl
theorem Nc {ks ks':List Int} (hf:FP ks) {o:mF} {b:Bool} (hb:o.1=1→b=false) (hk:cO ks o.1=some ks'):Ok (dU (He ks b) o) fun r=>r=(true,He ks' (decide (o.1=1))):=by
 obtain ⟨k,N,T,W,u⟩:=o
 dsimp only at hk hb ⊢
 have hl:=hf.len
 have hdl:=RL ks
 unfold dU
 refine Ok.bind (Q:=fun r=>r.1=true∧ ∃ b',r.2=He ks' b') ?_ fun r hr=>?_
 case refine_2=>
  obtain ⟨r1,r2⟩:=r
  obtain ⟨h1,b',h2⟩:=hr
  dsimp only at h1 h2
  subst h1 h2
  exact Ok.some rfl
 unfold cO at hk
 by_cases h8:k=8
 ·subst h8
  rw [if_pos rfl] at hk
  by_cases hks:ks=[]
  case neg=>rw [if_neg hks] at hk;cases hk
  rw [if_pos hks] at hk
  injection hk with hk
  subst hk hks
  exact Ok.of rfl ⟨rfl,b,rfl⟩
 rw [if_neg h8] at hk
 by_cases hks:ks=[]
 ·rw [if_pos hks] at hk;cases hk
 rw [if_neg hks] at hk
 have hk79:k≤7∨k=9:=by
  by_cases h1:k=1∨k=6∨k=7
  ·omega
  rw [if_neg h1] at hk
  by_cases h2:k=2
  ·omega
  rw [if_neg h2] at hk
  by_cases h3:k=3∨k=4
  ·omega
  rw [if_neg h3] at hk
  by_cases h5:k=5
  ·omega
  rw [if_neg h5] at hk
  by_cases h9:k=9
  ·omega
  rw [if_neg h9] at hk;cases hk
 refine Ok.bind (Q:=fun r=>r=(true,(He ks b,(k,(N,(T,(W,u))))))) ?_ fun r hr=>?_
 ·refine Ok.cond (fun h=>Ok.some ?_) fun _=>Ok.some rfl
  have h7: ¬ k≤7:=fun h7=>by rw [show decide (((k,(N,(T,(W,u)))):mF).1≤(7:Int))=true from decide_eq_true h7] at h;cases h
  have h9:k=9:=by omega
  rw [show decide ((((k,(N,(T,(W,u)))):mF).1:Int)=9)=true from decide_eq_true h9]
 subst hr
 refine Ok.cond (fun _=>Ok.ends ?_) fun h=>(by cases h)
 dsimp only
 have hp:decide (ks≠[])=true:=decide_eq_true hks
 unfold fE
 refine Ok.cond (fun h=>?_) fun _=>?_
 ·have:(!(He ks b).1.1)=false:=by show (!decide (ks≠[]))=false;rw [hp];rfl
  rw [this] at h;cases h
 have e16:(2:Int)=2:=rfl
 refine Ok.bind (Q:=fun d=>d= .inl (true,He ks' b)∨d= .inr (He ks' b)) ?_ fun d hd=>?_
 case refine_2=>
  rcases hd with rfl | rfl
  ·exact Ok.some ⟨rfl,b,rfl⟩
  ·exact Ok.some ⟨rfl,b,rfl⟩
 by_cases h1:k=1∨k=6∨k=7
 ·rw [if_pos h1] at hk
  injection hk with hk
  subst hk
  refine Ok.ifs (fun hk1=>Ok.some (.inl ?_)) fun hk1=>?_
  ·have hk1:k=1:=hk1
   rw [hb hk1];rfl
  ·have hk1: ¬ k=1:=hk1
   refine Ok.bind (Q:=(· =(false,He ks b))) ?_ fun r hr=>?_
   ·refine Ok.no (by show ¬ k=2;omega) (Ok.no (by show ¬ k=3;omega) (Ok.some ?_))
    rw [show decide ((((k,(N,(T,(W,u)))):mF).1:Int)=4)=false from decide_eq_false (by show ¬ k=4;omega)]
   subst hr
   exact Ok.cond (fun h=>by cases h) fun _=>Ok.no (by show ¬ k=5;omega) (Ok.no (by show ¬ k=9;omega) (Ok.some (.inr rfl)))
 rw [if_neg h1] at hk
 refine Ok.no (by show ¬ k=1;omega) ?_
 by_cases h234:k=2∨k=3∨k=4
 ·have hk2:ks'=ks++[k]∧ks.length≤16∧(k≠2→ ∀ j∈ks,j≠3∧j≠4):=by
   by_cases h2:k=2
   ·rw [if_pos h2] at hk
    by_cases h16:ks.length≤16
    ·rw [if_pos h16] at hk
     injection hk with hk
     exact ⟨by rw [h2];exact hk.symm,h16,fun h=>absurd h2 h⟩
    ·rw [if_neg h16] at hk;cases hk
   ·rw [if_neg h2,if_pos (by omega)] at hk
    by_cases h16:(∀ j∈ks,j≠3∧j≠4)∧ks.length≤16
    ·rw [if_pos h16] at hk
     injection hk with hk
     exact ⟨hk.symm,h16.2,fun _=>h16.1⟩
    ·rw [if_neg h16] at hk;cases hk
  obtain ⟨he,h16,hlk⟩:=hk2
  subst he
  refine Ok.bind (Q:=(· =(true,He ks b))) ?_ fun r hr=>?_
  ·refine Ok.ifs (fun h2=>Ok.some ?_) fun h2=>Ok.ifs (fun h3=>Ok.some ?_) fun h3=>Ok.some ?_
   ·rw [decide_eq_true h2]
   ·rw [decide_eq_true h3]
   ·have h2: ¬ k=2:=h2
    have h3: ¬ k=3:=h3
    rw [show decide ((((k,(N,(T,(W,u)))):mF).1:Int)=4)=true from decide_eq_true (by show k=4;omega)]
  subst hr
  refine Ok.cond (fun _=>?_) fun h=>(by cases h)
  dsimp only
  refine Ok.bind (Q:=(· =(false,He ks b))) ?_ fun r hr=>?_
  ·have e:decide ((16:Int)≤(((List.length (He ks b).1.2.1):Nat):Int))=false:=by
    refine decide_eq_false ?_
    show ¬ (16:Int)≤((Bi ks).length:Int)
    omega
   rw [e]
   refine Ok.cond (fun _=>?_) fun h=>(by cases h)
   refine Ok.ifs (fun h2=>Ok.ends ?_) fun _=>Ok.some rfl
   exact Ng (He ks b) (by show (Bi ks).length≤100;omega) (MB hf (hlk h2))
  subst hr
  refine Ok.cond (fun h=>by cases h) fun _=>?_
  refine Ok.bind (Ok.jk (by show ((Bi ks).length+1)*1≤_;omega)) fun r hr=>?_
  have hr:r=Bi ks++[decide (k≠2)]:=hr
  subst hr
  refine Ok.some (.inr ?_)
  show Sum.inr ((decide (ks≠[]),(Bi ks++[decide (k≠2)],_)),_)=_
  unfold He
  rw [SH hks,hp,show decide (ks++[k]≠[])=true from decide_eq_true (by simp)]
 ·rw [if_neg (by omega),if_neg (by omega)] at hk
  refine Ok.bind (Q:=(· =(false,He ks b))) ?_ fun r hr=>?_
  ·refine Ok.no (by show ¬ k=2;omega) (Ok.no (by show ¬ k=3;omega) (Ok.some ?_))
   rw [show decide ((((k,(N,(T,(W,u)))):mF).1:Int)=4)=false from decide_eq_false (by show ¬ k=4;omega)]
  subst hr
  refine Ok.cond (fun h=>by cases h) fun _=>?_
  dsimp only
  by_cases h5:k=5
  ·rw [if_pos h5] at hk
   by_cases h2:2≤ks.length
   case neg=>rw [if_neg h2] at hk;cases hk
   rw [if_pos h2] at hk
   injection hk with hk
   subst hk
   refine Ok.yes h5 (Ok.no (by show ¬ (((Bi ks).length:Int)=0);omega) ?_)
   have e1:IntKind.wrap .i64 (((Bi ks).length:Int) - 1)=(((Bi ks).length - 1:Nat):Int):=by rw [wrap64 (by omega) (by omega)];omega
   refine Ok.bind (Q:=(· =(Bi ks).dropLast)) (by show Ok (sub (Bi ks) 0 (IntKind.wrap .i64 (((Bi ks).length:Int) - 1))) _;rw [e1];exact Ok.sub (by omega) (by omega) (by omega) (by rw [List.dropLast_eq_take];simp)) fun r hr=>?_
   subst hr
   refine Ok.some (.inr ?_)
   have e2:Bi ks.dropLast=(Bi ks).dropLast:=by unfold Bi;rw [List.tail_dropLast,List.map_dropLast]
   have e3:ks.dropLast≠[]:=fun e=>by have:=congrArg List.length e;rw [List.length_dropLast] at this;simp only [List.length_nil] at this;omega
   unfold He
   rw [e2,show decide (ks.dropLast≠[])=true from decide_eq_true e3,hp]
  ·rw [if_neg h5] at hk
   by_cases h9:k=9
   case neg=>rw [if_neg h9] at hk;cases hk
   rw [if_pos h9] at hk
   by_cases h2:ks.length=1
   case neg=>rw [if_neg h2] at hk;cases hk
   rw [if_pos h2] at hk
   injection hk with hk
   subst hk
   refine Ok.no h5 (Ok.yes h9 (Ok.no (by show ¬ (0:Int)<((Bi ks).length:Int);omega) (Ok.some (.inr ?_))))
   have:Bi ks=[]:=List.eq_nil_of_length_eq_zero (by omega)
   show Sum.inr ((false,(Bi ks,_)),_)=_
   rw [this]
   rfl
theorem Ql {ns nt:Int} {l:List mF} (hV:VW ns nt l): ∀ i,i≤l.length→FP (xE l i)
 | 0,_=> .inl rfl
 | i+1,h=>by
  have ih:=Ql hV i (by omega)
  obtain ⟨o,ho⟩: ∃ o,l[i]? =some o:=⟨_,List.getElem?_eq_getElem (by omega)⟩
  obtain ⟨_,hk⟩:=hV.1 i o ho
  rcases b_ hk with ⟨_,_,e1⟩ | ⟨_,_,e1⟩ | ⟨h2,hne,h16,e1⟩ | ⟨_,h2,e1⟩ | ⟨_,_,e1⟩<;>rw [e1]
  ·exact .inr ⟨[],rfl,by simp,by simp⟩
  ·exact ih
  ·exact ih.cons hne h2 h16
  ·exact ih.drop h2
  ·exact .inl rfl
theorem Lm (m:List mF):0≤gY m:=by
 unfold gY
 induction m with
 | nil=>simp
 | cons a r ih=>simp only [List.map_cons,List.sum_cons];omega
theorem M6 {l:List mF} {ns nt:Int} (hl:l.length≤3000) (hV:VW ns nt l) (ht:gY l≤16384):Ok (jI l ns nt) fun r=>r=(0,0):=by
 unfold jI
 refine Ok.bind (Q:=fun r=>r=gY l) ?_ fun r3 hr3=>?_
 ·refine Ok.range l (by omega) (fun i z=>z=gY (l.take i)) (fun i o z ho hz=>?_) (fun z hz=>?_) rfl
  ·have hlt:=a_ ho
   refine Ok.yes (by show (i:Int)<_;omega) (Ok.bind (Ok.bH ho) fun y hy=>?_)
   subst hy hz
   have h1:=qm ho
   have h2:=wP (l:=l) (i+1)
   have h3:=Lm (l.take i)
   refine Ok.inl ⟨aN (by omega),?_⟩
   show IntKind.wrap .i64 (gY (l.take i)+((o.2.2.1.length:Nat):Int))=_
   rw [wrap64 (by omega) (by omega),h1]
  ·subst hz
   exact Ok.no (by show ¬ ((l.length:Int)<_);omega) (Ok.inr (by rw [List.take_length]))
 subst hr3
 refine Ok.bind (Q:=(· =false)) ?_ fun b hb=>?_
 ·rw [show decide ((65536:Int)<((l.length:Nat):Int))=false from decide_eq_false (by omega)]
  exact Ok.some (decide_eq_false (by omega))
 subst hb
 refine Ok.cond (fun h=>by cases h) fun _=>?_
 refine Ok.bind (Q:=fun d=>d= .inl (He [] (decide (lW l l.length=1)))) ?_ fun d hd=>?_
 ·refine Ok.range l (by omega) (fun i z=>z=He (xE l i) (decide (lW l i=1))) (fun i o z ho hz=>?_) (fun z hz=>?_) rfl
  ·have hlt:=a_ ho
   obtain ⟨hF,hk⟩:=hV.1 i o ho
   have hlo:lW l (i+1)=o.1:=by show (match l[i]? with | some o=>_ | none=>_)=_;rw [ho]
   refine Ok.yes (by show (i:Int)<_;omega) (Ok.bind (Ok.bH ho) fun y hy=>?_)
   subst hy hz
   have hTo:=wK (fQ ho)
   refine Ok.bind (Q:=(· =(false,He (xE l (i+1)) (decide (lW l (i+1)=1))))) ?_ fun r hr=>by subst hr;exact Ok.inl ⟨aN (by omega),rfl⟩
   refine Ok.bind (Jz hF (by omega)) fun r hr=>?_
   subst hr
   refine Ok.cond (fun _=>?_) fun h=>(by cases h)
   refine Ok.bind (Nc (Ql hV i (by omega)) (b:=decide (lW l i=1)) (fun h1=>?_) hk) fun r hr=>?_
   ·refine decide_eq_false fun hla=>?_
    obtain ⟨_,h | h | h | h | h⟩:=hF
    ·exact h.2.2.2 hla
    all_goals omega
   ·subst hr
    rw [hlo];exact Ok.some rfl
  ·rw [hz,hV.2]
   exact Ok.no (by show ¬ ((l.length:Int)<_);omega) (Ok.inr rfl)
 subst hd
 refine Ok.UE ?_
 unfold gG
 exact Ok.of rfl rfl
end Go.Fn
/- The document's layout of operations without lists and tables ends without an error. -/
namespace Go.Fn
open Go Go.Lf
abbrev R3:Type:=(List eQ)×je
abbrev bS (s:R3):=s.2.2.1.1
abbrev iT (s:R3):=s.2.2.1.2.2.1
abbrev Tx (s:R3):=s.2.2.2.1
abbrev TF (s:R3):=s.2.2.2.2.1
abbrev cB (s:R3):=s.2.2.2.2.2.2.1
abbrev CJ (s:R3):=s.2.2.2.2.2.2.2.1
abbrev lS (s:R3):=s.2.2.2.2.2.2.2.2.2.1
abbrev xJ (s:R3):=s.2.2.2.2.2.2.2.2.2.2.1
structure RI (sheet:List p9) (K B i F:Nat) (s:R3):Prop where
 sh:s.1=sheet
 ln:(bS s).length≤100000*i
 lo: ∀ x∈bS s,x.length≤200000
 lk:(iT s).length≤i
 mg:Tx s=0
 mr:TF s=[]
 ls:(cB s).length=K
 br:(CJ s).length=B
 fl:(lS s).length≤F
 op:xJ s=[]
theorem zu {n:Nat} (h1:1≤n) (h:n≤1000000000):IntKind.wrap .i64 ((n:Int) - 1)=((n - 1:Nat):Int):=by
 rw [wrap64 (by omega) (by omega)];omega
theorem B_ {s:R3} (h1:1≤(cB s).length) (h2:(cB s).length≤1000):Ok (aW s) fun _=>True:=by
 unfold aW
 refine Ok.ends ?_
 show Ok (idx (cB s) (IntKind.wrap .i64 (((cB s).length:Int) - 1))) _
 rw [zu h1 (by omega)]
 exact (Ok.bH (List.getElem?_eq_getElem (show (cB s).length - 1<(cB s).length by omega))).imp fun _ _=>trivial
theorem Ac {sheet:List p9} {K B i F:Nat} {s:R3} (h:RI sheet K B i F s) (hK:1≤K∧K≤1000) (hF:F≤1000000) (t:List UInt8) (w:Int):Ok (bf s t w) (RI sheet K B i (F+1)):=by
 unfold bf
 have hls:=h.ls
 have hfl:=h.fl
 refine Ok.bind (B_ (by omega) (by omega)) fun r1 _=>?_
 refine Ok.bind (Ok.jk (by show ((lS s).length+1)*48≤_;omega)) fun r2 hr2=>Ok.some ?_
 refine ⟨h.sh,h.ln,h.lo,h.lk,h.mg,h.mr,h.ls,h.br,?_,h.op⟩
 show r2.length≤_
 rw [hr2,List.length_append]
 show (lS s).length+1≤_
 omega
theorem D7 {sheet:List p9} {K B i F:Nat} {s:R3} (h:RI sheet K B i F s) (hK:1≤K∧K≤1000) (hsh:Az sheet) (hfs:FR sheet) {p:Int} (hc:bE sheet=some (p,0)) {n:Int} (hn: -1≤n∧n<sheet.length):Ok (bK s n) fun _=>True:=by
 unfold bK
 have hls:=h.ls
 refine Ok.ifs (fun _=>Ok.ends (B_ (by omega) (by omega))) fun hneg=>?_
 have hneg: ¬ n<0:=hneg
 rw [h.sh]
 obtain ⟨m,rfl⟩:=Int.eq_ofNat_of_zero_le (show 0≤n by omega)
 refine Ok.bind (Ok.bH (List.getElem?_eq_getElem (show m<sheet.length by omega))) fun x _=>?_
 rw [Br hsh hfs hc]
 refine Ok.bind (Fa sheet hsh.len _) fun c _=>Ok.bind (B_ (by omega) (by omega)) fun l _=>Ok.ends ?_
 unfold gK
 refine Ok.bind (Q:=fun _=>True) (Ok.cond (fun _=>Ok.some trivial) fun _=>Ok.some trivial) fun _ _=>Ok.some trivial
theorem wY {α:Type} {c:Prop} [Decidable c] {x:Option α} {A B:α→Prop} (h: ¬ c) (hx:Ok x B):Ok x fun r=>if c then A r else B r:=hx.imp fun r hr=>by rw [if_neg h];exact hr
theorem SA {α:Type} {c:Prop} [Decidable c] {x:Option α} {A B:α→Prop} (h:c) (hx:Ok x A):Ok x fun r=>if c then A r else B r:=hx.imp fun r hr=>by rw [if_pos h];exact hr
theorem KE {sheet:List p9} {ns nt last:Int} {ks ks':List Int} {i F:Nat} {s:R3} {o:mF} (hns:ns=sheet.length) (h:RI sheet (ks.length+1) (ks.length - 1) i F s) (hf:ks.length≤17) (hF:Bd ns nt last o) (hk:cO ks o.1=some ks') (hsh:Az sheet) (hfs:FR sheet) {p:Int} (hc:bE sheet=some (p,0)) (hT:o.2.2.1.length≤100000) (hFl:F≤100000) (hi:i≤100000):
  Ok (dL s o) fun r=>if o.1=8∨o.1=9 then r=s else RI sheet (ks'.length+1) (ks'.length - 1) (i+1) (F+1+o.2.2.1.length) r:=by
 have hkk:=hF.kind
 have hls:=h.ls
 have hbr:=h.br
 unfold dL
 refine Ok.ifs (fun h1=>?_) fun h1=>Ok.ifs (fun h2=>?_) fun h2=>?_
 ·have h1:o.1=1:=h1
  have e:ks'=ks:=by
   rcases b_ hk with q | q | q | q | q
   ·omega
   ·exact q.2.2
   all_goals omega
  subst e
  refine wY (by omega) ?_
  rw [show dQ o.2.2.1=some (cellsS o.2.2.1) from FL _ (by omega),Option.bind_some]
  have hcl:=tL o.2.2.1
  refine Ok.ends (Ok.range (cellsS o.2.2.1) (by omega) (fun j s=>RI sheet (ks'.length+1) (ks'.length - 1) i (F+j) s) (fun j c st hc hst=>?_) (fun st hst=>?_) h)
  ·have hlt:=a_ hc
   refine Ok.yes (by show (j:Int)<_;omega) (Ok.bind (Ok.bH hc) fun y _=>Ok.bind (Ac hst ⟨by omega,by omega⟩ (by omega) _ _) fun r hr=>Ok.inl ⟨aN (by omega),hr⟩)
  ·refine Ok.no (by show ¬ ((cellsS o.2.2.1).length:Int)<_;omega) (Ok.inr ?_)
   show RI _ _ _ _ _ st
   exact ⟨hst.sh,by have:=hst.ln;omega,hst.lo,by have:=hst.lk;omega,hst.mg,hst.mr,hst.ls,hst.br,by have:=hst.fl;omega,hst.op⟩
 ·have h2:o.1=2:=h2
  have e:ks'=ks++[o.1]∧ks≠[]:=by
   rcases b_ hk with q | q | q | q | q
   ·omega
   ·omega
   ·exact ⟨q.2.2.2,q.2.1⟩
   all_goals omega
  obtain ⟨rfl,hne⟩:=e
  have hkl:1≤ks.length:=by
   cases ks
   ·exact absurd rfl hne
   ·simp
  have hn: -1≤o.2.1∧o.2.1<sheet.length:=by
   obtain ⟨_,q | q | q | q | q⟩:=hF<;>omega
  refine wY (by omega) ?_
  refine Ok.bind (D7 h ⟨by omega,by omega⟩ hsh hfs hc hn) fun r6 _=>?_
  refine Ok.bind (Ok.jk (by show ((cB s).length+1)*16≤_;omega)) fun r7 hr7=>Ok.bind (Ok.jk (by show ((CJ s).length+1)*1≤_;omega)) fun r8 hr8=>Ok.some ?_
  refine ⟨h.sh,by have:=h.ln;show (bS s).length≤_;omega,h.lo,by have:=h.lk;show (iT s).length≤_;omega,h.mg,h.mr,?_,?_,by have:=h.fl;show (lS s).length≤_;omega,h.op⟩
  ·show r7.length=_
   rw [hr7,List.length_append,List.length_append]
   show (cB s).length+1=_
   simp only [List.length_cons,List.length_nil];omega
  ·show r8.length=_
   rw [hr8,List.length_append,List.length_append]
   show (CJ s).length+1=_
   simp only [List.length_cons,List.length_nil];omega
 have h1: ¬ o.1=1:=h1
 have h2: ¬ o.1=2:=h2
 refine Ok.bind (Q:=fun r=>r.2=(s,o)∧(r.1=true↔(o.1=3∨o.1=4))) ?_ fun r9 hr9=>?_
 ·refine Ok.ifs (fun h3=>Ok.some ⟨rfl,fun _=> .inl h3,fun _=>decide_eq_true h3⟩) fun h3=>Ok.some ⟨rfl,fun h=> .inr (of_decide_eq_true h),fun h=>decide_eq_true (h.resolve_left h3)⟩
 obtain ⟨b9,r9⟩:=r9
 obtain ⟨e9,hb9⟩:=hr9
 dsimp only at e9 hb9
 subst e9
 dsimp only
 refine Ok.cond (fun hb=>?_) fun hb=>?_
 ·have h34:=hb9.1 hb
  have e:ks'=ks++[o.1]∧ks≠[]:=by
   rcases b_ hk with q | q | q | q | q
   ·omega
   ·omega
   ·exact ⟨q.2.2.2,q.2.1⟩
   all_goals omega
  obtain ⟨rfl,hne⟩:=e
  have hkl:1≤ks.length:=by
   cases ks
   ·exact absurd rfl hne
   ·simp
  have hlk:=h.lk
  refine wY (by omega) ?_
  refine Ok.bind (Ok.jk (by show ((iT s).length+1)*16≤_;omega)) fun r10 hr10=>?_
  refine Ok.bind (B_ (by show 1≤(cB s).length;omega) (by show (cB s).length≤_;omega)) fun r11 _=>?_
  refine Ok.bind (Ok.jk (by show ((cB s).length+1)*16≤_;omega)) fun r12 hr12=>Ok.bind (Ok.jk (by show ((CJ s).length+1)*1≤_;omega)) fun r13 hr13=>Ok.some ?_
  refine ⟨h.sh,by have:=h.ln;show (bS s).length≤_;omega,h.lo,?_,h.mg,h.mr,?_,?_,by have:=h.fl;show (lS s).length≤_;omega,h.op⟩
  ·show r10.length≤_
   rw [hr10,List.length_append]
   show (iT s).length+1≤_
   omega
  ·show r12.length=_
   rw [hr12,List.length_append,List.length_append]
   show (cB s).length+1=_
   simp only [List.length_cons,List.length_nil];omega
  ·show r13.length=_
   rw [hr13,List.length_append,List.length_append]
   show (CJ s).length+1=_
   simp only [List.length_cons,List.length_nil];omega
 have h34: ¬ (o.1=3∨o.1=4):=fun h=>by rw [hb9.2 h] at hb;cases hb
 refine Ok.ifs (fun h5=>?_) fun h5=>Ok.ifs (fun h6=>?_) fun h6=>Ok.ifs (fun h7=>?_) fun h7=>?_
 ·have h5:o.1=5:=h5
  have e:2≤ks.length∧ks'=ks.dropLast:=by
   rcases b_ hk with q | q | q | q | q
   ·omega
   ·omega
   ·omega
   ·exact q.2
   ·omega
  obtain ⟨h2k,rfl⟩:=e
  refine wY (by omega) ?_
  refine Ok.bind (Q:=fun r=>r.length=ks.length) (by show Ok (sub (cB s) 0 (IntKind.wrap .i64 (((cB s).length:Int) - 1))) _;rw [zu (by omega) (by omega)];exact Ok.sub (by omega) (by omega) (by omega) (by simp;omega)) fun r14 hr14=>?_
  refine Ok.bind (Q:=fun r:R3=>r.1=s.1∧bS r=bS s∧iT r=iT s∧Tx r=Tx s∧TF r=TF s∧cB r=r14∧CJ r=CJ s∧lS r=lS s∧xJ r=xJ s) ?_ fun r17 hr17=>?_
  ·refine Ok.bind (Q:=(· <(CJ s).length)) (by show Ok (lG (CJ s).length (IntKind.wrap .i64 (((CJ s).length:Int) - 1))) _;rw [zu (by omega) (by omega)];exact Ok.lG (by omega) (by omega) (by omega)) fun j hj=>Ok.bind (Ok.nth (Q:=fun _=>True) hj trivial) fun b _=>Ok.cond (fun _=>Ok.some ⟨rfl,rfl,rfl,rfl,rfl,rfl,rfl,rfl,rfl⟩) fun _=>Ok.some ⟨rfl,rfl,rfl,rfl,rfl,rfl,rfl,rfl,rfl⟩
  ·obtain ⟨q1,q2,q3,q4,q5,q6,q7,q8,q9⟩:=hr17
   refine Ok.bind (Q:=fun r=>r.length=ks.length - 2) (by show Ok (sub (CJ r17) 0 (IntKind.wrap .i64 (((CJ s).length:Int) - 1))) _;rw [q7,zu (by omega) (by omega)];exact Ok.sub (by omega) (by omega) (by omega) (by simp;omega)) fun r18 hr18=>Ok.some ?_
   refine ⟨q1.trans h.sh,by have:=h.ln;show (bS r17).length≤_;rw [q2];omega,by show ∀ x∈bS r17,_;rw [q2];exact h.lo,by have:=h.lk;show (iT r17).length≤_;rw [q3];omega,q4.trans h.mg,q5.trans h.mr,?_,?_,by have:=h.fl;show (lS r17).length≤_;rw [q8];omega,q9.trans h.op⟩
   ·show (cB r17).length=_
    rw [q6,hr14,List.length_dropLast];omega
   ·show r18.length=_
    rw [hr18,List.length_dropLast];omega
 ·have h6:o.1=6:=h6
  have e:ks'=ks:=by
   rcases b_ hk with q | q | q | q | q
   ·omega
   ·exact q.2.2
   all_goals omega
  subst e
  refine wY (by omega) ?_
  refine Ok.ends ((Ac h ⟨by omega,by omega⟩ (by omega) _ _).imp fun r hst=>?_)
  exact ⟨hst.sh,by have:=hst.ln;omega,hst.lo,by have:=hst.lk;omega,hst.mg,hst.mr,hst.ls,hst.br,by have:=hst.fl;omega,hst.op⟩
 ·have h7:o.1=7:=h7
  have e:ks'=ks:=by
   rcases b_ hk with q | q | q | q | q
   ·omega
   ·exact q.2.2
   all_goals omega
  subst e
  refine wY (by omega) ?_
  refine Ok.ends ((Ac h ⟨by omega,by omega⟩ (by omega) _ _).imp fun r hst=>?_)
  exact ⟨hst.sh,by have:=hst.ln;omega,hst.lo,by have:=hst.lk;omega,hst.mg,hst.mr,hst.ls,hst.br,by have:=hst.fl;omega,hst.op⟩
 ·have h5: ¬ o.1=5:=h5
  have h6: ¬ o.1=6:=h6
  have h7: ¬ o.1=7:=h7
  exact SA (by omega) (Ok.some rfl)
theorem FN {s:R3} (h:xJ s=[]):bU s=some (false,s):=by
 unfold bU
 have e:decide ((0:Int)<(((List.length (xJ s)):Nat):Int))=false:=by rw [h];rfl
 rw [e];rfl
theorem Ih {sheet:List p9} {K B i F:Nat} {s:R3} (n:Nat) (l:List Gx) (h1:(bS s).length≤n) (hn:n≤1000000000):Ok (cz s l) fun r=>bS r=bS s++[l]∧r.1=s.1∧iT r=iT s∧Tx r=Tx s∧TF r=TF s∧cB r=cB s∧CJ r=CJ s∧lS r=lS s∧xJ r=xJ s:=by
 unfold cz
 refine Ok.bind (Ok.jk (by show ((bS s).length+1)*24≤_;omega)) fun r1 hr1=>Ok.some ⟨hr1,rfl,rfl,rfl,rfl,rfl,rfl,rfl,rfl⟩
theorem RN (l:List Gx):iV l 0=some l:=by
 refine Ok.eq ?_
 unfold iV
 refine Ok.ends (Ok.loop (fun _ z=>z=(0,l)) (fun n z hz=>?_) 0 _ (by omega) rfl)
 subst hz
 exact Ok.no (by show ¬ (0:Int)<0;omega) (Ok.inr rfl)
theorem RY {sheet:List p9} {K B i F:Nat} {s:R3} (h:RI sheet (K+1) B i F s) (hK:K≤100) (hF:F≤20000) (hi:i≤3000):Ok (e_ s) (RI sheet K B (i+1) 0):=by
 unfold e_
 have hls:=h.ls
 have hfl:=h.fl
 have hln:=h.ln
 refine Ok.bind (Q:=fun r=>r.length=K) (by show Ok (sub (cB s) 0 (IntKind.wrap .i64 (((cB s).length:Int) - 1))) _;rw [zu (by omega) (by omega)];exact Ok.sub (by omega) (by omega) (by omega) (by simp;omega)) fun r1 hr1=>?_
 rw [FN (by exact h.op),Option.bind_some]
 refine Ok.cond (fun h=>by cases h) fun _=>?_
 refine Ok.bind (PW _ _ (by show (lS s).length≤_;omega)) fun r4 hr4=>?_
 obtain ⟨hq1,hq2⟩:=hr4
 have hq1:r4.1.length≤2*(lS s).length+1:=hq1
 have hq2: ∀ x∈r4.1,x.length≤10*(lS s).length:=hq2
 generalize hS:(Go.Lf.u6 s (r1,(Go.Lf.u2 s.2.2.2.2.2.2.2 (([]:List Gx),s.2.2.2.2.2.2.2.2.2.2))):R3)=S
 have hS':S.1=sheet∧bS S=bS s∧iT S=iT s∧Tx S=0∧TF S=[]∧(cB S).length=K∧CJ S=CJ s∧lS S=[]∧xJ S=[]:=by
  rw [← hS]
  exact ⟨h.sh,rfl,rfl,h.mg,h.mr,hr1,rfl,rfl,h.op⟩
 obtain ⟨s1,s2,s3,s4,s5,s6,s7,s8,s9⟩:=hS'
 have e:decide ((S.2.2.2.2.1:List UInt8)≠[])=false:=decide_eq_false fun hne=>hne s5
 refine Ok.bind (Q:=(· =S)) (Ok.ifs (fun _=>Ok.ends ?_) fun _=>Ok.some rfl) fun r6 hr6=>?_
 ·unfold fP
  show Ok (bif decide ((S.2.2.2.2.1:List UInt8)≠[]) then _ else _) _
  rw [e]
  exact Ok.some rfl
 have hr6:r6=S:=hr6
 subst hr6
 refine Ok.ends ((Ok.range (Q:=fun st:R3=>st.1=sheet∧bS st=bS s++r4.1∧iT st=iT s∧Tx st=0∧TF st=[]∧(cB st).length=K∧CJ st=CJ s∧lS st=[]∧xJ st=[]) r4.1 (by omega) (fun j (st:R3)=>st.1=sheet∧bS st=bS s++r4.1.take j∧iT st=iT s∧Tx st=0∧TF st=[]∧(cB st).length=K∧CJ st=CJ s∧lS st=[]∧xJ st=[]) (fun j l st hl hst=>?_) (fun st hst=>?_) ⟨s1,by rw [s2];simp,s3,s4,s5,s6,s7,s8,s9⟩).imp fun r hr=>?_)
 ·have hlt:=a_ hl
  obtain ⟨t1,t2,t3,t4,t5,t6,t7,t8,t9⟩:=hst
  refine Ok.yes (by show (j:Int)<_;omega) (Ok.bind (Ok.bH hl) fun y hy=>?_)
  subst hy
  have e:decide ((st.2.2.2.2.1:List UInt8)≠[])=false:=decide_eq_false fun hne=>hne t5
  show Ok (bif decide ((st.2.2.2.2.1:List UInt8)≠[]) then _ else _) _
  rw [e]
  refine Ok.cond (fun h=>by cases h) fun _=>?_
  rw [show st.2.2.2.1=0 from t4]
  rw [RN,Option.bind_some]
  have hll:=hq2 l (List.mem_of_getElem? hl)
  refine Ok.bind (Ok.jk (by show (0+l.length)*48≤_;omega)) fun r12 hr12=>?_
  have hr12:r12=l:=hr12
  subst hr12
  refine Ok.bind (Ih (sheet:=sheet) (K:=K) (B:=B) (i:=i) (F:=F) 400000000 r12 (by rw [t2,List.length_append,List.length_take];omega) (by omega)) fun r13 hr13=>Ok.inl ⟨aN (by omega),?_⟩
  obtain ⟨u1,u2,u3,u4,u5,u6,u7,u8,u9⟩:=hr13
  refine ⟨u2.trans t1,?_,u3.trans t3,u4.trans t4,u5.trans t5,by show (cB r13).length=K;rw [u6];exact t6,u7.trans t7,u8.trans t8,u9.trans t9⟩
  rw [u1,t2,List.take_add_one,hl]
  simp
 ·refine Ok.no (by show ¬ (r4.1.length:Int)<_;omega) (Ok.inr ?_)
  rw [List.take_length] at hst
  exact hst
 ·obtain ⟨t1,t2,t3,t4,t5,t6,t7,t8,t9⟩:=hr
  refine ⟨t1,by rw [t2,List.length_append];omega,fun x hx=>?_,by rw [t3];have:=h.lk;omega,t4,t5,t6,by rw [t7];exact h.br,by rw [t8];exact Nat.le_refl _,t9⟩
  rw [t2] at hx
  rcases List.mem_append.1 hx with hx | hx
  ·exact h.lo x hx
  ·have:=hq2 x hx;omega
theorem Nh {sheet:List p9} {ns nt last:Int} {ks ks':List Int} {i F:Nat} {s:R3} {o:mF} (hns:ns=sheet.length) (h:RI sheet (ks.length+1) (ks.length - 1) i F s) (hF:Bd ns nt last o) (hk:cO ks o.1=some ks') (h89:o.1=8∨o.1=9) (hsh:Az sheet) (hfs:FR sheet) {p:Int} (hc:bE sheet=some (p,0)) (hFl:F≤20000) (hi:i≤3000):
  Ok (bg s o) (RI sheet (ks'.length+1) (ks'.length - 1) (i+1) F):=by
 have hls:=h.ls
 have hbr:=h.br
 unfold bg
 refine Ok.ifs (fun h8=>?_) fun h8=>Ok.yes (h89.resolve_left h8) ?_
 ·have h8:o.1=8:=h8
  have e:ks=[]∧ks'=[8]:=by
   rcases b_ hk with q | q | q | q | q
   ·exact q.2
   all_goals omega
  obtain ⟨rfl,rfl⟩:=e
  have hn: -1≤o.2.1∧o.2.1<sheet.length:=by
   obtain ⟨_,q | q | q | q | q⟩:=hF<;>omega
  refine Ok.bind (Q:=fun r=>r.2=o∧RI sheet 1 0 (i+1) F r.1) ?_ fun r4 hr4=>?_
  ·have up:RI sheet 1 0 (i+1) F s:=⟨h.sh,by have:=h.ln;omega,h.lo,by have:=h.lk;omega,h.mg,h.mr,h.ls,h.br,h.fl,h.op⟩
   refine Ok.bind (Q:=fun r=>r.2=(s,o)) ?_ fun r2 hr2=>?_
   ·refine Ok.cond (fun _=>Ok.cond (fun _=>?_) fun _=>Ok.some rfl) fun _=>Ok.some rfl
    rw [FN h.op]
    exact Ok.some rfl
   obtain ⟨b2,r2⟩:=r2
   dsimp only at hr2
   subst hr2
   refine Ok.cond (fun _=>?_) fun _=>Ok.some ⟨rfl,up⟩
   have hln:=h.ln
   refine Ok.bind (Ih (sheet:=sheet) (K:=1) (B:=0) (i:=i) (F:=F) 400000000 [] (by show (bS s).length≤_;omega) (by omega)) fun r3 hr3=>Ok.some ⟨rfl,?_⟩
   obtain ⟨u1,u2,u3,u4,u5,u6,u7,u8,u9⟩:=hr3
   have u1:bS r3=bS s++[[]]:=u1
   refine ⟨u2.trans h.sh,by show (bS r3).length≤_;rw [u1,List.length_append];simp only [List.length_cons,List.length_nil];omega,fun x hx=>?_,by show (iT r3).length≤_;rw [show iT r3=iT s from u3];have:=h.lk;omega,u4.trans h.mg,u5.trans h.mr,by show (cB r3).length=_;rw [show cB r3=cB s from u6];exact h.ls,by show (CJ r3).length=_;rw [show CJ r3=CJ s from u7];exact h.br,by show (lS r3).length≤_;rw [show lS r3=lS s from u8];exact h.fl,u9.trans h.op⟩
   have hx:x∈bS r3:=hx
   rw [u1] at hx
   rcases List.mem_append.1 hx with hx | hx
   ·exact h.lo x hx
   ·rw [List.mem_singleton.1 hx];exact Nat.zero_le _
  ·obtain ⟨r4,o'⟩:=r4
   obtain ⟨ho,hr4⟩:=hr4
   dsimp only at ho hr4
   subst ho
   have h9:RI sheet 1 0 (i+1) 0 (Go.Lf.u9 r4 (([]:List Gx),r4.2.2.2.2.2.2.2.2.2.2)):=⟨hr4.sh,hr4.ln,hr4.lo,hr4.lk,hr4.mg,hr4.mr,hr4.ls,hr4.br,Nat.zero_le _,hr4.op⟩
   refine Ok.bind (D7 h9 ⟨by omega,by omega⟩ hsh hfs hc hn) fun r5 _=>?_
   have hl4:=hr4.ls
   refine Ok.bind (Ok.jk (by show ((cB r4).length+1)*16≤_;omega)) fun r6 hr6=>Ok.some ?_
   refine ⟨hr4.sh,hr4.ln,hr4.lo,hr4.lk,hr4.mg,hr4.mr,?_,hr4.br,Nat.zero_le _,hr4.op⟩
   show r6.length=_
   rw [hr6,List.length_append]
   show (cB r4).length+1=_
   rw [hl4];rfl
 ·have h9:o.1=9:=h89.resolve_left h8
  have e:ks.length=1∧ks'=[]:=by
   rcases b_ hk with q | q | q | q | q
   ·omega
   ·omega
   ·omega
   ·omega
   ·exact q.2
  obtain ⟨e1,rfl⟩:=e
  rw [e1] at h
  refine Ok.ends ((RY h (by omega) hFl hi).imp fun r hr=>⟨hr.sh,hr.ln,hr.lo,hr.lk,hr.mg,hr.mr,hr.ls,hr.br,by have:=hr.fl;omega,hr.op⟩)
theorem IX {s:R3} {o:mF} (h:1≤o.1∧o.1≤7):bg s o=some s:=by
 refine Ok.eq ?_
 unfold bg
 refine Ok.no (by show ¬ o.1=8;omega) (Ok.no (by show ¬ o.1=9;omega) (Ok.no (by show ¬ o.1=10;omega) (Ok.no (by show ¬ o.1=11;omega) (Ok.no (by show ¬ o.1=12;omega) (Ok.no (by show ¬ o.1=13;omega) (Ok.no (by show ¬ o.1=14;omega) (Ok.some rfl)))))))
end Go.Fn
/- The document's layout of a topic without lists and tables answers no error. -/
namespace Go.Fn
open Go Go.Lf
theorem Ny (ls:List (List Gx)) (h1:ls.length≤2000) (h2: ∀ x∈ls,x.length≤200000):Ok (jH ls) fun _=>True:=by
 unfold jH
 refine Ok.ends (Ok.loop (fun k (z:List Rc×Int)=> ∃ i:Nat,z.2=i∧i+k=ls.length∧z.1.length≤200000*i) (fun k z hz=>?_) ls.length _ (by omega) ⟨0,rfl,by omega,by show (0:Nat)≤_;omega⟩)
 obtain ⟨out,n⟩:=z
 obtain ⟨i,hz1,hz2,hz3⟩:=hz
 dsimp only at hz1 hz3 ⊢
 subst hz1
 refine Ok.ifs (fun hlt=>?_) fun _=>Ok.inr trivial
 have hi:i<ls.length:=by omega
 have hx:ls[i]? =some ls[i]:=List.getElem?_eq_getElem hi
 have hl:=h2 ls[i] (List.getElem_mem hi)
 generalize ls[i]=l at hx hl
 refine Ok.bind (Ok.bH hx) fun y hy=>?_
 subst hy
 refine Ok.bind (Q:=fun o:List Rc=>o.length≤200000*(i+1)) ?_ fun o ho=>Ok.inl ⟨k - 1,by omega,i+1,aN (by omega),by omega,ho⟩
 refine Ok.range l (by omega) (fun j (s:Int×List Rc)=>s.2.length≤200000*i+j∧ ∀ m g,m+1=j→l[m]? =some g→g.2.2.2.1≠0→0<s.2.length) (fun j x s hx hs=>?_) (fun s hs=>?_) ⟨by show out.length≤_;omega,fun m g h=>by omega⟩
 ·obtain ⟨col,o⟩:=s
  obtain ⟨hs1,hs2⟩:=hs
  dsimp only at hs1 hs2 ⊢
  have hlt:=Aj hx
  refine Ok.yes (by omega) (Ok.bind (Ok.bH hx) fun y hy=>?_)
  subst hy
  refine Ok.bind (Q:=fun q:List Rc×Gx=>q.2=x∧q.1.length≤200000*i+(j+1)∧(x.2.2.2.1≠0→0<q.1.length)) ?_ fun q hq=>?_
  ·refine Ok.bind (Q:=fun q:Bool×(List Rc×Gx)=>q.2=(o,x)∧(q.1=true→x.2.2.2.1≠0∧0<o.length)) (Ok.ifs (fun hne=>Ok.ifs (fun hj=>?_) fun _=>Ok.some ⟨rfl,fun h=>(by cases h)⟩) fun _=>Ok.some ⟨rfl,fun h=>(by cases h)⟩) fun q hq=>?_
   ·have hj:(0:Int)<(j:Int):=hj
    have hjm:l[j - 1]? =some (l[j - 1]'(by omega)):=List.getElem?_eq_getElem (by omega)
    have hs3:=hs2 (j - 1) _ (by omega) hjm
    generalize l[j - 1]'(by omega)=g at hjm hs3
    rw [zu (by omega) (by omega)]
    refine Ok.bind (Ok.bH hjm) fun y hy=>?_
    subst hy
    refine Ok.some ⟨rfl,fun h=>⟨hne,hs3 ?_⟩⟩
    rw [show g.2.2.2.1=x.2.2.2.1 from of_decide_eq_true h]
    exact hne
   obtain ⟨c,q⟩:=q
   obtain ⟨rfl,hc⟩:=hq
   dsimp only
   refine Ok.cond (fun h=>?_) fun _=>Ok.ifs (fun _=>?_) fun h0=>Ok.some ⟨rfl,by show o.length≤_;omega,fun h=>absurd h h0⟩
   ·obtain ⟨hc1,hpos⟩:=hc h
    rw [zu (by omega) (by omega)]
    refine Ok.bind (Ok.DK (show o.length - 1<o.length by omega)) fun j1 hj1=>?_
    subst hj1
    refine Ok.bind (Ok.nth (Q:=fun _=>True) (by omega) trivial) fun _ _=>Ok.bind (Ok.DK (show o.length - 1<o.length by omega)) fun j2 hj2=>?_
    subst hj2
    refine Ok.bind (Ok.nth (Q:=fun _=>True) (by omega) trivial) fun _ _=>Ok.some ⟨rfl,?_,fun _=>?_⟩
    ·show (List.set _ _ _).length≤_
     rw [List.length_set];omega
    ·show 0<(List.set _ _ _).length
     rw [List.length_set];exact hpos
   ·refine Ok.bind (Ok.jk (by simp only [List.length_cons,List.length_nil];omega)) fun o2 ho2=>Ok.some ⟨rfl,?_,fun _=>?_⟩
    ·show o2.length≤_
     rw [ho2,List.length_append];simp only [List.length_cons,List.length_nil];omega
    ·show 0<o2.length
     rw [ho2,List.length_append];simp only [List.length_cons,List.length_nil];omega
  ·obtain ⟨o2,q⟩:=q
   obtain ⟨rfl,hq1,hq2⟩:=hq
   refine Ok.inl ⟨aN (by omega),hq1,fun m g hm hg hne=>hq2 ?_⟩
   have:m=j:=by omega
   subst this
   rw [hx] at hg
   injection hg with hg
   rw [hg];exact hne
 ·have hs1:=hs.1
  exact Ok.no (by show ¬ ((l.length:Int)<_);omega) (Ok.inr (by show s.2.length≤_;omega))
theorem Cv {ns nt:Int} {l:List mF} (hV:VW ns nt l): ∀ i,i≤l.length→(xE l i).length≤17
 | 0,_=>by simp [xE]
 | i+1,h=>by
  have ih:=Cv hV i (by omega)
  obtain ⟨o,ho⟩: ∃ o,l[i]? =some o:=⟨_,List.getElem?_eq_getElem (by omega)⟩
  obtain ⟨_,hk⟩:=hV.1 i o ho
  rcases b_ hk with ⟨_,_,e⟩ | ⟨_,_,e⟩ | ⟨_,_,h16,e⟩ | ⟨_,_,e⟩ | ⟨_,_,e⟩<;>rw [e]
  ·simp
  ·exact ih
  ·rw [List.length_append];simp only [List.length_cons,List.length_nil];omega
  ·rw [List.length_dropLast];omega
  ·simp
theorem KQ {sheet:List p9} {l:List mF} {topics wd:Int} (hl:l.length≤3000) (hw:10≤wd∧wd≤200) (hV:VW sheet.length topics l) (htot:gY l≤16384) (htp:topics≤1000) (hsh:Az sheet) (hfs:FR sheet) {p:Int} (hc:bE sheet=some (p,0)):Ok (jf sheet l topics wd) fun r=>r.2=0:=by
 unfold jf
 refine Ok.bind (Q:=fun q=>q.1=false∧q.2=(([]:List (List Gx)),(([]:List Rc),(([]:List (Int×(Int×Unit))),(false,()))))) ?_ fun q hq=>?_
 ·have h1:decide (wd<10)=false:=decide_eq_false (by omega)
  rw [h1]
  exact Ok.some ⟨decide_eq_false (by omega),rfl⟩
 obtain ⟨qb,q⟩:=q
 obtain ⟨rfl,rfl⟩:=hq
 refine Ok.cond (fun h=>by cases h) fun _=>?_
 rw [Fy hsh hfs,Option.bind_some]
 refine Ok.no (fun h=>h rfl) ?_
 refine Ok.bind (M6 hl hV htot) fun r3 hr3=>?_
 subst hr3
 refine Ok.no (fun h=>h rfl) (Ok.no (by show ¬ (1000:Int)<topics;omega) ?_)
 refine Ok.bind (Q:=fun _=>True) ⟨_,rfl,trivial⟩ fun r4 _=>?_
 refine Ok.bind (Q:=fun r=>(bS r.2).length≤300000000∧ ∀ x∈bS r.2,x.length≤200000) ?_ fun r9 hr9=>?_
 ·refine Ok.range l (by omega) (fun i z=>RI sheet ((xE l i).length+1) ((xE l i).length - 1) i ((gY (l.take i)).toNat+i) z.1) (fun i o z ho hz=>?_) (fun z hz=>?_) ⟨rfl,Nat.le_refl _,fun x hx=>(List.not_mem_nil hx).elim,Nat.le_refl _,rfl,rfl,rfl,rfl,Nat.zero_le _,rfl⟩
  ·have hlt:=a_ ho
   obtain ⟨hF,hk⟩:=hV.1 i o ho
   have hkk:=hF.kind
   have hTo:=wK (fQ ho)
   have ht1:=qm ho
   have ht2:=wP (l:=l) (i+1)
   have ht3:=Lm (l.take i)
   have hkl:=Cv hV i (by omega)
   have hkl':=Cv hV (i+1) (by omega)
   refine Ok.yes (by show (i:Int)<_;omega) (Ok.bind (Ok.bH ho) fun y hy=>?_)
   subst hy
   refine Ok.bind (KE rfl hz hkl hF hk hsh hfs hc (by omega) (by omega) (by omega)) fun r7 hr7=>?_
   refine Ok.bind (Q:=RI sheet ((xE l (i+1)).length+1) ((xE l (i+1)).length - 1) (i+1) ((gY (l.take (i+1))).toNat+(i+1))) ?_ fun r8 hr8=>Ok.inl ⟨aN (by omega),⟨hr8.sh,hr8.ln,hr8.lo,hr8.lk,hr8.mg,hr8.mr,hr8.ls,hr8.br,hr8.fl,hr8.op⟩⟩
   by_cases h89:o.1=8∨o.1=9
   ·rw [if_pos h89] at hr7
    rw [hr7]
    exact (Nh rfl hz hF hk h89 hsh hfs hc (by omega) (by omega)).imp fun r hr=>⟨hr.sh,hr.ln,hr.lo,hr.lk,hr.mg,hr.mr,hr.ls,hr.br,by have:=hr.fl;omega,hr.op⟩
   ·rw [if_neg h89] at hr7
    rw [IX (by omega)]
    exact Ok.some ⟨hr7.sh,hr7.ln,hr7.lo,hr7.lk,hr7.mg,hr7.mr,hr7.ls,hr7.br,by have:=hr7.fl;omega,hr7.op⟩
  ·refine Ok.no (by show ¬ ((l.length:Int)<_);omega) (Ok.inr ⟨?_,hz.lo⟩)
   have:=hz.ln
   show (bS z.1).length≤_
   omega
 ·refine Ok.bind (Q:=fun r=>(bS r.2).length≤2000∧ ∀ x∈bS r.2,x.length≤200000) ?_ fun r11 hr11=>?_
  case refine_2=>exact Ok.bind (Ny _ hr11.1 hr11.2) fun r12 _=>by exact Ok.some rfl
  obtain ⟨hq1,hq2⟩:=hr9
  refine Ok.ifs (fun h2000=>?_) fun hn=>Ok.some ⟨?_,hq2⟩
  ·have h2000:(2000:Int)<((bS r9.2).length:Int):=h2000
   refine Ok.bind (Ok.sub (Q:=fun r:List (List Gx)=>r.length≤2000∧ ∀ x∈r,x.length≤200000) (by omega) (by omega) (by show (2000:Int)≤((bS r9.2).length:Int);omega) ⟨?_,fun x hx=>hq2 x (List.mem_of_mem_drop (List.mem_of_mem_take hx))⟩) fun r10 hr10=>Ok.some hr10
   rw [List.length_take]
   exact Nat.min_le_left _ _
  ·have hn: ¬ (2000:Int)<((bS r9.2).length:Int):=hn
   show (bS r9.2).length≤_
   omega
end Go.Fn
/-
  From a function's entry to a row's statement: the arguments are opened, nothing old has turned, so all reads as before.
-/
namespace Go.Lf
open Go Go.iM Go.RowKit Go.ChangeShapes Go.WideShapes Go.ChangeMaps Go.ChangeAt
section
variable {H:Type} {enc:TypeId×Value→H} {P:Program}
def Ck (P:Program) (ts:List TypeId):Bool:=ts.all fun t=>P.readableRec t && decide (t<P.types.size)
theorem yS (hl:laidOutB P=true) {W W':World} (hb:Below W.heap.size W W'): ∀ (ts:List TypeId) (vs:List Value) (ds:List (DataW H)) (ps:List MemPlace),Ck P ts=true→
  DataW.TrodAll enc P W 0 (fun _=>true) true ts vs ds ps→(∀ x∈ps,x.block<W.heap.size)→DataW.TrodAll enc P W' 0 (fun b=>decide (b<W.heap.size)) true ts vs ds ps
 | [],[],[],_,_,h,_=>h
 | [],_::_,_,_,_,h,_=>h.elim
 | [],[],_::_,_,_,h,_=>h.elim
 | _::_,[],_,_,_,h,_=>h.elim
 | _::_,_::_,[],_,_,h,_=>h.elim
 | t::ts,v::vs,d::ds,ps,hr,h,hlt=>by
  obtain ⟨p,q,h1,h2,rfl⟩:=h
  simp only [Ck,List.all_cons,Bool.and_eq_true,decide_eq_true_eq] at hr
  exact ⟨p,q,Below.trod hl hr.1.1 hr.1.2 h1 hb (fun x hx=>hlt x (List.mem_append_left _ hx)),yS hl hb ts vs ds q hr.2 h2 (fun x hx=>hlt x (List.mem_append_right _ hx)),rfl⟩
theorem OQ {f:Func} {s:ChangeSpec} {W W':World} {args:Array Value} {ds gs:List (DataW H)} {before:List MemPlace} {tb:TypeId} (hl:laidOutB P=true) (hr:Ck P f.params.toList=true) (hv:s.vars=[])
  (hres:f.resultTypes= #[tb]) (htb:P.underlying tb=some .bool) (hW:DataW.Whole enc P f.params.toList s.vars false W args.toList ds gs before)
  (hs:s.fn H (ds++gs)={ results:=[.lit (.bool true)],args:=ds,vars:=[] }) (hb:Below W.heap.size W W'):s.post enc P f false true false false W args (.bool true) W':=by
 have hlt: ∀ p∈before,p.block<W.heap.size:=fun p hp=>hW.lt p hp
 have hW0:=hW
 obtain ⟨p,q,hA,hV,hps,_,_⟩:=hW
 rw [hv] at hV
 obtain ⟨rfl,rfl⟩:=trodVars_none hV
 refine ⟨ds,[],before,[],p,[],hW0,?_,?_,?_,hb.frame _,fun h=>by cases h⟩
 ·rw [hs,hres]
  exact trodAll_mk1 (shut_bool htb true)
 ·rw [hs]
  exact yS hl hb _ _ _ _ hr hA (fun x hx=>hlt x (by rw [hps];exact List.mem_append_left _ hx))
 ·rw [hs,hv]
  rfl
end
def start (W:World):Cx:=⟨W,[],fun _=>none⟩
def wh (W:World) (I:World→Prop):Prop:= ∀ w',Below W.heap.size W w'→I w'
theorem wh.and {W:World} {I J:World→Prop} (h:wh W I) (k:wh W J):wh W (fun w=>I w∧J w):=fun w' hb=>⟨h w' hb,k w' hb⟩
theorem wh.of {W:World} {p:Prop} (h:p):wh W (fun _=>p):=fun _ _=>h
theorem Og {W:World} {I:World→Prop} (h:wh W I):Hb (start W) (start W).w0 [] I:=
 ⟨⟨rfl,rfl,rfl,Nat.le_refl _,fun _ _ _=>rfl,fun c hc=>absurd hc (by simp [start]),fun c hc=>absurd hc (by simp [start]),fun c hc=>absurd hc (by simp),fun c hc=>absurd hc (by simp),List.Pairwise.nil,fun k m hk=>by cases hk⟩,
  fun w' hx=>h w' ⟨hx.os,hx.tape,hx.output,hx.size,fun k hk=>hx.block k hk rfl (fun c hc=>absurd hc (by simp))⟩⟩
theorem Ro {W:World} {a:Addr} {v:Value} (h:W.cell? a=some v):a.block<W.heap.size:=by
 rcases Nat.lt_or_ge a.block W.heap.size with h1 | h1
 ·exact h1
 ·simp [World.cell?,Array.getElem?_eq_none h1] at h
def vZ (W:World):bL:=⟨fun a=>W.cell? a,fun _=>False⟩
theorem H6 (W:World):wh W (Agree (vZ W)):=fun _ hb=>⟨fun _ _ h=>(hb.cell (Ro h)).trans h,fun _ h=>h.elim⟩
theorem MG {P:Program} {W:World} {name:String} {cs:Array Value} (h:W.var? P name=some cs):wh W (fun w=>w.var? P name=some cs):=fun w' hb=>by
 unfold World.var? at*
 cases hg:P.globalNamed name with
 | none=>rw [hg] at h;simp at h
 | some g=>
  rw [hg] at h
  simp only [Option.bind_some] at*
  by_cases hlt:g<W.heap.size
  ·rw [hb.block g hlt];exact h
  ·rw [Array.getElem?_eq_none (by omega)] at h;simp at h
theorem ME {P:Program} {G:World→Prop} {f:Nat} {e:Entry} {z:ai (e.ps.map fq.ty)} {W:World} {vals:List Value} (he:aa P G f e) (hr:e.rs=[.bool]) (_ho:outs e.ps=[]) {r:ai (e.rs++outs e.ps)} (hz:e.f z=some r) (ht:aI (e.rs++outs e.ps) r=[⟨.bool,true⟩])
  (ha:bP (vZ W) e.ps z vals [] []) (hG:wh W G):Calls P f vals.toArray W fun e W'=>e= .returned (.bool true)∧Below W.heap.size W W':=by
 refine Calls.mono (he.ok z r hz (start W) (vZ W) vals [] [] ha (Og (hG.and (H6 W)))) ?_
 rintro x w' ⟨v,φ',h1,h2,rfl,_,hb,⟨vs,hv,rfl⟩,_⟩
 rw [ht,hr] at hv
 refine ⟨?_,hb.hp.os,hb.hp.tape,hb.hp.output,hb.hp.size,fun k hk=>hb.hp.keep k hk (by simp [start,free])⟩
 cases hv with
 | cons a1 a2 a3=>
  cases a3
  obtain ⟨rfl,_⟩:=a2
  rfl
section
variable {H:Type} (enc:TypeId×Value→H) (P:Program) (W:World)
def Light (P:Program) (t:TypeId) (d:DataW H):Prop:= ∀ x∈d.weights P t,x≤reachBytes
end
def Zp (o a:Nat):Nat:=(o+a - 1) / a*a
def Ty.WV:Ty→Nat
 | .int k=>k.bits / 8
 | .bool=>1
 | .unit=>1
 | .st t=>t.WV
 | .pr a b=>max a.WV b.WV
 | _=>8
mutual
def Ty.XE:Ty→Nat
 | .int k=>k.bits / 8
 | .bool=>1
 | .str=>16
 | .sl _=>24
 | .rw _ _=>24
 | .mr _ _=>24
 | .it=>8
 | .xX=>8
 | .dead _ _=>24
 | .eb _ _=>16
 | .op _=>8
 | .bx _ _=>8
 | .on _=>8
 | .fl _=>8
 | .bo _ _=>8
 | .bn=>8
 | .tr=>16
 | .ml _ _ _=>24
 | .ptr _=>8
 | .st t=>Zp (t.end_ 0) t.WV
 | _=>0
def Ty.end_:Ty→Nat→Nat
 | .pr a b,o=>b.end_ (Zp o a.WV+a.XE)
 | _,o=>o
end
def Wf:(t:Ty)→t.den→Prop
 | .int k,x=>k.min≤x∧x≤k.max
 | .str,x=>List.length x≤140737488351232
 | .sl t,l=>List.length l*t.XE≤140737488351232∧ ∀ x∈(l:List t.den),Wf t x
 | .st t,x=>Wf t x
 | .pr a b,x=>Wf a x.1∧Wf b x.2
 | _,_=>True
def Sz:(t:Ty)→t.den→Nat
 | .str,x=>List.length x
 | .sl t,l=>((l:List t.den).map (Sz t)).sum+List.length l
 | .st t,x=>Sz t x
 | .pr a b,x=>Sz a x.1+Sz b x.2
 | _,_=>0
mutual
def bulk {H:Type}:DataW H→Nat
 | .lit (.string b)=>b.length
 | .slice es _=>ug es+es.length
 | .agg ps=>ug ps
 | _=>0
def ug {H:Type}:List (DataW H)→Nat
 | []=>0
 | d::r=>bulk d+ug r
end
theorem AX {H:Type}: ∀ l:List (DataW H),ug l=(l.map bulk).sum
 | []=>rfl
 | d::r=>by
  rw [ug,AX r];rfl
theorem LZ {α β:Type} {f:α→Nat} {g:β→Nat}: ∀ {l:List α} {m:List β},l.length=m.length→(∀ (i:Nat) x y,l[i]? =some x→m[i]? =some y→f x≤g y)→(l.map f).sum≤(m.map g).sum
 | [],[],_,_=>Nat.le_refl _
 | [],_::_,h,_=>by simp at h
 | _::_,[],h,_=>by simp at h
 | x::l,y::m,h,hR=>by
  have h1:=hR 0 x y rfl rfl
  have h2:=LZ (l:=l) (m:=m) (by simpa using h) fun i a b ha hb=>hR (i+1) a b (by simpa using ha) (by simpa using hb)
  simp only [List.map_cons,List.sum_cons]
  omega
def mD (P:Program):Ty→TypeId⊕(List Field×Nat)→Bool
 | .int k, .inl t=>match P.underlying t with | some (.int k')=>decide (k=k') | _=>false
 | .bool, .inl t=>match P.underlying t with | some .bool=>true | _=>false
 | .str, .inl t=>match P.underlying t with | some .string=>true | _=>false
 | .sl a, .inl t=>match P.underlying t with | some (.slice e)=>Nat.beq (P.cellsOf e) a.size && Nat.blt 0 a.size && Nat.beq (P.bytesOf e) a.XE && mD P a (.inl e) | _=>false
 | .st c, .inl t=>match P.underlying t with | some (.struct fs)=>Nat.beq (P.cellsOf t) c.size && mD P c (.inr (fs.toList,0)) | _=>false
 | .pr a b, .inr (f::fs,o)=>Nat.beq f.offset o && Nat.beq (P.cellsOf f.type) a.size && mD P a (.inl f.type) && mD P b (.inr (fs,o+a.size))
 | .unit, .inr ([],_)=>true
 | _,_=>false
section
variable {H:Type} (enc:TypeId×Value→H) (P:Program) (W:World)
def YC (t:TypeId) (a:Ty):Prop:=
 ∀ fuel cs d ps,DataW.trod enc P W 0 (fun _=>true) true fuel t cs=some (d,ps)→Light P t d→ ∃ x:a.den,Rp (vZ W) a x cs []∧Wf a x∧Sz a x≤bulk d
def XO (size o:Nat) (fs:List Field) (a:Ty):Prop:=
 ∀ (n:Nat) (cs:List Value) (xs:List (DataW H×List MemPlace)),cs.length=size→xs.length=fs.length→
  (∀ (i:Nat) (f:Field),fs[i]? =some f→DataW.trod enc P W 0 (fun _=>true) true n f.type ((cs.drop f.offset).take (P.cellsOf f.type))=xs[i]?)→
  (∀ (i:Nat) (f:Field) y,fs[i]? =some f→xs[i]? =some y→Light P f.type y.1)→o+a.size=size→ ∃ x:a.den,Rp (vZ W) a x (cs.drop o) []∧Wf a x∧Sz a x≤ug (xs.map (·.1))
end
section
variable {H:Type} {enc:TypeId×Value→H} {P:Program} {W:World} {t e:TypeId}
theorem Jl {es sp:List (DataW H)} (ht:P.underlying t=some (.slice e)) (hl:Light P t (.slice es sp)):es.length*P.bytesOf e≤140737488351232∧ ∀ d∈es,Light P e d:=by
 unfold Light at hl
 simp only [DataW.weights,ht] at hl
 have h7:reachBytes=140737488351232:=by decide
 constructor
 ·have h1:=hl _ (List.mem_cons_self ..)
  have h2:es.length*P.bytesOf e≤(es.length+sp.length)*P.bytesOf e:=Nat.mul_le_mul_right _ (by omega)
  omega
 ·intro d hd x hx
  refine hl x (List.mem_cons_of_mem _ (List.mem_append_left _ ?_))
  clear hl
  induction es with
  | nil=>cases hd
  | cons a r ih=>
   simp only [DataW.weightsAll]
   rcases List.mem_cons.1 hd with rfl | h
   ·exact List.mem_append_left _ hx
   ·exact List.mem_append_right _ (ih h)
theorem ML {fs:Array Field} {ds:List (DataW H)} (ht:P.underlying t=some (.struct fs)) (hl:Light P t (.agg ds)): ∀ (i:Nat) (f:Field) y,fs.toList[i]? =some f→ds[i]? =some y→Light P f.type y:=by
 unfold Light at hl
 simp only [DataW.weights,ht] at hl
 have key: ∀ (l:List Field) (ds:List (DataW H)),(∀ x∈DataW.weightsEach P (l.map (·.type)) ds,x≤reachBytes)→ ∀ (i:Nat) (f:Field) y,l[i]? =some f→ds[i]? =some y→Light P f.type y:=by
  intro l
  induction l with
  | nil=>intro ds _ i f y h;simp at h
  | cons g r ih=>
   intro ds hl i f y hf hy
   cases ds with
   | nil=>simp at hy
   | cons d q=>
    simp only [List.map_cons,DataW.weightsEach] at hl
    cases i with
    | zero=>
     simp at hf hy
     subst hf hy
     exact fun x hx=>hl x (List.mem_append_left _ hx)
    | succ i=>exact ih q (fun x hx=>hl x (List.mem_append_right _ hx)) i f y (by simpa using hf) (by simpa using hy)
 exact key fs.toList ds hl
theorem Bf {α:Type} {p:Nat→α→Prop}: ∀ n,(∀ i,i<n→ ∃ x,p i x)→ ∃ l:List α,l.length=n∧ ∀ i x,l[i]? =some x→p i x
 | 0,_=>⟨[],rfl,fun i x h=>by simp at h⟩
 | n+1,h=>by
  obtain ⟨l,h1,h2⟩:=Bf n (fun i hi=>h i (by omega))
  obtain ⟨x,hx⟩:=h n (by omega)
  refine ⟨l++[x],by simp [h1],fun i y hy=>?_⟩
  by_cases hi:i<n
  ·rw [List.getElem?_append_left (by omega)] at hy;exact h2 i y hy
  ·rw [List.getElem?_append_right (by omega)] at hy
   have h3:i=n:=by
    have:=(List.getElem?_eq_some_iff.1 hy).1
    simp at this;omega
   subst h3
   rw [h1,Nat.sub_self] at hy
   simp at hy
   subst hy;exact hx
theorem K7 {α β:Type} {R:α→β→Prop}: ∀ {l:List α} {m:List β},l.length=m.length→(∀ (i:Nat) x y,l[i]? =some x→m[i]? =some y→R x y)→bz R l m
 | [],[],_,_=> .nil
 | [],_::_,h,_=>by simp at h
 | _::_,[],h,_=>by simp at h
 | x::l,y::m,h,hR=> .cons (hR 0 x y rfl rfl) (K7 (by simpa using h) fun i a b ha hb=>hR (i+1) a b (by simpa using ha) (by simpa using hb))
theorem Cb {s:Nat} (hs:0<s): ∀ (l:List (List Value)),(∀ c∈l,c.length=s)→ ∀ (j:Nat) (v:Value),l.flatten[j]? =some v→ ∃ i k c,j=i*s+k∧l[i]? =some c∧c[k]? =some v
 | [],_,j,v,h=>by simp at h
 | d::r,hl,j,v,h=>by
  have h1:=hl d List.mem_cons_self
  rw [List.flatten_cons] at h
  by_cases hj:j<s
  ·rw [List.getElem?_append_left (by omega)] at h
   exact ⟨0,j,d,by omega,rfl,h⟩
  ·rw [List.getElem?_append_right (by omega),h1] at h
   obtain ⟨i,k,c,e1,e2,e3⟩:=Cb hs r (fun c hc=>hl c (List.mem_cons_of_mem _ hc)) (j - s) v h
   exact ⟨i+1,k,c,by rw [Nat.succ_mul];omega,by simpa using e2,e3⟩
theorem Dv: ∀ (a:Ty),(∀ t,mD P a (.inl t)=true→YC enc P W t a)∧(∀ fs o size,mD P a (.inr (fs,o))=true→XO enc P W size o fs a)
 | .int k=>by
  refine ⟨fun t h=>?_,fun fs o size h=>by cases fs<;>simp [mD] at h⟩
  ·skip
   unfold mD at h
   split at h
   ·rename_i k' hu
    have h:=of_decide_eq_true h
    subst h
    intro fuel cs d ps ht _
    obtain ⟨n,h1,h2,h3⟩:=DataW.trod_int hu ht
    exact ⟨n,⟨h1,rfl⟩,by
     have h4:k.min≤n∧n≤k.max:=by simpa [Lit.wf] using h3
     exact ⟨h4,Nat.zero_le _⟩⟩
   ·cases h
 | .bool=>by
  refine ⟨fun t h=>?_,fun fs o size h=>by cases fs<;>simp [mD] at h⟩
  ·skip
   unfold mD at h
   split at h
   ·rename_i hu
    intro fuel cs d ps ht _
    cases fuel with
    | zero=>simp [DataW.trod] at ht
    | succ n=>
     unfold DataW.trod at ht
     rw [hu] at ht
     split at ht<;>simp_all [Rp,Wf,Sz]
   ·cases h
 | .str=>by
  refine ⟨fun t h=>?_,fun fs o size h=>by cases fs<;>simp [mD] at h⟩
  ·skip
   unfold mD at h
   split at h
   ·rename_i hu
    intro fuel cs d ps ht hl
    obtain ⟨s,h1,h2,h3⟩:=DataW.trod_string hu ht
    injection h2 with h4 h5
    subst h4
    refine ⟨s.data.toList,⟨by rw [h1],rfl⟩,?_⟩
    have h6:=hl s.data.toList.length (by simp [DataW.weights])
    have h7:reachBytes=140737488351232:=by decide
    refine ⟨?_,Nat.le_refl _⟩
    show s.data.toList.length≤_
    omega
   ·cases h
 | .unit=>⟨fun t h=>by simp [mD] at h,fun fs o size h=>by
   cases fs with
   | cons f r=>simp [mD] at h
   | nil=>
    intro n cs xs hs _ _ _ hz
    have:o=cs.length:=by rw [hs];exact hz
    exact ⟨(),⟨List.drop_eq_nil_of_le (by omega),rfl⟩,trivial,Nat.zero_le _⟩⟩
 | .sl a=>by
  refine ⟨fun t h=>?_,fun fs o size h=>by cases fs<;>simp [mD] at h⟩
  ·skip
   unfold mD at h
   split at h
   case h_2=>cases h
   case h_1 e hu=>
   simp only [Bool.and_eq_true] at h
   obtain ⟨⟨⟨h1,h2⟩,h3⟩,h4⟩:=h
   have hn:=Nat.eq_of_beq_eq_true h1
   have h0:0<a.size:=by simpa [Nat.blt_eq] using h2
   have hb:=Nat.eq_of_beq_eq_true h3
   have he:=(Dv a).1 e h4
   intro fuel cs d ps hd hl
   rcases DataW.trod_slice hu hd with ⟨g1,g2⟩ | ⟨ad,len,cap,elems,rest,m,_,rfl,hx,_,hlc,_,hlen,hel,_,_⟩
   ·exact ⟨([]:List a.den),⟨none,0,[],g1,Nat.le_refl _, .nil,fun hn=>absurd hn (by simp),rfl⟩,by simp [Wf],Nat.zero_le _⟩
   ·injection hx with hx1 hx2
    subst hx1
    obtain ⟨hl1,hl2⟩:=Jl hu hl
    rw [List.length_map,hlen,hb] at hl1
    have each: ∀ i,i<len→ ∃ q:a.den×List Value,Rp (vZ W) a q.1 q.2 []∧Wf a q.1∧(∀ k u,q.2[k]? =some u→W.cell? (ad.add (i*a.size+k))=some u)∧ ∀ y,elems[i]? =some y→Sz a q.1≤bulk y.1:=by
     intro i hi
     obtain ⟨y,hy⟩: ∃ y,elems[i]? =some y:=⟨_,List.getElem?_eq_getElem (by omega)⟩
     have h3:=hel i hi
     rw [hy,hn,Option.bind_eq_some_iff] at h3
     obtain ⟨cs',h4,h5⟩:=h3
     obtain ⟨y1,y2⟩:=y
     obtain ⟨x,h6,h7,h7b⟩:=he m cs' y1 y2 h5 (hl2 y1 (List.mem_map.2 ⟨(y1,y2),List.mem_of_getElem? hy,rfl⟩))
     obtain ⟨_,h8,h9⟩:=World.cells?_some h4
     refine ⟨(x,cs'),h6,h7,fun k u hu=>?_,fun y' hy'=>(by rw [hy] at hy';injection hy' with hy';rw [← hy'];exact h7b)⟩
     have hk:k<a.size:=by rw [← h6.len];exact (List.getElem?_eq_some_iff.1 hu).1
     have:=h9 k hk
     rw [hu,add_add'] at this
     exact this
    obtain ⟨l,h10,h11⟩:=Bf len each
    have hll:(l.map (·.1)).length=len:=by rw [List.length_map,h10]
    have hall:bz (fun x cs=>Rp (vZ W) a x cs []) (l.map (·.1)) (l.map (·.2)):=K7 (by simp) fun i x y hx hy=>by
     rw [List.getElem?_map] at hx hy
     cases hq:l[i]? with
     | none=>rw [hq] at hx;cases hx
     | some q=>
      rw [hq] at hx hy
      simp only [Option.map_some,Option.some.injEq] at hx hy
      subst hx hy
      exact (h11 i q hq).1
    refine ⟨l.map (·.1),⟨some ad,cap,l.map (·.2),?_,?_,hall,fun _=>⟨ad,rfl,fun j v hv=>?_⟩,rfl⟩,⟨?_,fun x hx=>?_⟩,?_⟩
    ·show [Value.slice (some ad) len cap]=[Value.slice (some ad) (l.map (·.1)).length cap]
     rw [hll]
    ·show (l.map (·.1)).length≤cap
     omega
    ·obtain ⟨i,k,c,rfl,e2,e3⟩:=Cb h0 (l.map (·.2)) (fun c hc=>by
      obtain ⟨q,hq,rfl⟩:=List.mem_map.1 hc
      obtain ⟨i,hi⟩:=List.getElem?_of_mem hq
      exact (h11 i q hi).1.len) j v hv
     rw [List.getElem?_map] at e2
     cases hq:l[i]? with
     | none=>rw [hq] at e2;cases e2
     | some q=>
      rw [hq] at e2
      simp only [Option.map_some,Option.some.injEq] at e2
      subst e2
      exact (h11 i q hq).2.2.1 k v e3
    ·show (l.map (·.1)).length*a.XE≤_
     rw [hll];exact hl1
    ·obtain ⟨q,hq,rfl⟩:=List.mem_map.1 hx
     obtain ⟨i,hi⟩:=List.getElem?_of_mem hq
     exact (h11 i q hi).2.1
    ·show ((l.map (·.1)).map (Sz a)).sum+(l.map (·.1)).length≤ug (elems.map (·.1))+(elems.map (·.1)).length
     rw [AX,hll,List.length_map,hlen]
     refine Nat.add_le_add_right (LZ (by rw [hll,List.length_map,hlen]) fun i x y hx hy=>?_) _
     rw [List.getElem?_map] at hx hy
     cases hq:l[i]? with
     | none=>rw [hq] at hx;cases hx
     | some q=>
      cases he2:elems[i]? with
      | none=>rw [he2] at hy;cases hy
      | some z=>
       rw [hq] at hx
       rw [he2] at hy
       simp only [Option.map_some,Option.some.injEq] at hx hy
       subst hx hy
       exact (h11 i q hq).2.2.2 z he2
 | .st c=>by
  refine ⟨fun t h=>?_,fun fs o size h=>by cases fs<;>simp [mD] at h⟩
  ·skip
   unfold mD at h
   split at h
   case h_2=>cases h
   case h_1 fs hu=>
   simp only [Bool.and_eq_true] at h
   have hs:=Nat.eq_of_beq_eq_true h.1
   have hF:=(Dv c).2 fs.toList 0 c.size h.2
   intro fuel cs d ps hd hl
   obtain ⟨xs,n,_,hx,hcl,hxl,hf⟩:=DataW.trod_struct hu hd
   injection hx with hx1 hx2
   subst hx1
   have hla:=ML hu hl
   obtain ⟨x,h1,h2,h3⟩:=hF n cs xs (by rw [hcl,hs]) (by simpa using hxl) (fun i f hi=>hf i f (by simpa using hi)) (fun i f y hi hy=>hla i f y.1 hi (by simp [hy])) (by simp)
   have h1:Rp (vZ W) c x cs []:=by simpa using h1
   exact ⟨x,h1,h2,h3⟩
 | .pr a b=>⟨fun t h=>by simp [mD] at h,fun fs o size h=>by
   cases fs with
   | nil=>simp [mD] at h
   | cons f fs=>
    unfold mD at h
    simp only [Bool.and_eq_true] at h
    obtain ⟨⟨⟨h1,h2⟩,h3⟩,h4⟩:=h
    have ho:=Nat.eq_of_beq_eq_true h1
    have hm:=Nat.eq_of_beq_eq_true h2
    have ha:=(Dv a).1 _ h3
    have hb:=(Dv b).2 fs (o+a.size) size h4
    intro n cs xs hs hxl hx hl hz
    cases xs with
    | nil=>simp at hxl
    | cons y ys=>
     have h3:=hx 0 f rfl
     rw [ho,hm] at h3
     obtain ⟨y1,y2⟩:=y
     obtain ⟨x,g1,g2,g2b⟩:=ha n _ y1 y2 h3 (hl 0 f (y1,y2) rfl rfl)
     obtain ⟨z,g3,g4,g4b⟩:=hb n cs ys hs (by simpa using hxl) (fun i g hg=>by simpa using hx (i+1) g (by simpa using hg)) (fun i g y hg hy=>hl (i+1) g y (by simpa using hg) (by simpa using hy)) (by rw [← hz];simp [Ty.size];omega)
     refine ⟨(x,z),⟨_,_,[],[],?_,rfl,g1,g3⟩,⟨g2,g4⟩,Nat.add_le_add g2b g4b⟩
     rw [← List.drop_drop,List.take_append_drop]⟩
 | .it=>⟨fun t h=>by simp [mD] at h,fun fs o size h=>by cases fs<;>simp [mD] at h⟩
 | .xX=>⟨fun t h=>by simp [mD] at h,fun fs o size h=>by cases fs<;>simp [mD] at h⟩
 | .dead _ _=>⟨fun t h=>by simp [mD] at h,fun fs o size h=>by cases fs<;>simp [mD] at h⟩
 | .rw _ _=>⟨fun t h=>by simp [mD] at h,fun fs o size h=>by cases fs<;>simp [mD] at h⟩
 | .mr _ _=>⟨fun t h=>by simp [mD] at h,fun fs o size h=>by cases fs<;>simp [mD] at h⟩
 | .ptr _=>⟨fun t h=>by simp [mD] at h,fun fs o size h=>by cases fs<;>simp [mD] at h⟩
 | .eb _ _=>⟨fun t h=>by simp [mD] at h,fun fs o size h=>by cases fs<;>simp [mD] at h⟩
 | .op _=>⟨fun t h=>by simp [mD] at h,fun fs o size h=>by cases fs<;>simp [mD] at h⟩
 | .bx _ _=>⟨fun t h=>by simp [mD] at h,fun fs o size h=>by cases fs<;>simp [mD] at h⟩
 | .bo _ _=>⟨fun t h=>by simp [mD] at h,fun fs o size h=>by cases fs<;>simp [mD] at h⟩
 | .bn=>⟨fun t h=>by simp [mD] at h,fun fs o size h=>by cases fs<;>simp [mD] at h⟩
 | .tr=>⟨fun t h=>by simp [mD] at h,fun fs o size h=>by cases fs<;>simp [mD] at h⟩
 | .ml _ _ _=>⟨fun t h=>by simp [mD] at h,fun fs o size h=>by cases fs<;>simp [mD] at h⟩
 | .on _=>⟨fun t h=>by simp [mD] at h,fun fs o size h=>by cases fs<;>simp [mD] at h⟩
 | .fl _=>⟨fun t h=>by simp [mD] at h,fun fs o size h=>by cases fs<;>simp [mD] at h⟩
theorem wX {ts:List TypeId} {ds:List (DataW H)} {j:Nat} {t:TypeId} {d:DataW H} (hz:(DataW.weightsEach P ts ds).all (· ≤reachBytes)=true) (ht:ts[j]? =some t) (hd:ds[j]? =some d):Light P t d:=by
 intro x hx
 have h1: ∀ y∈DataW.weightsEach P ts ds,y≤reachBytes:=fun y hy=>by simpa using List.all_eq_true.1 hz y hy
 clear hz
 induction ts generalizing ds j with
 | nil=>simp at ht
 | cons a r ih=>
  cases ds with
  | nil=>simp at hd
  | cons b q=>
   simp only [DataW.weightsEach] at h1
   cases j with
   | zero=>
    simp at ht hd
    subst ht hd
    exact h1 x (List.mem_append_left _ hx)
   | succ j=>exact ih (by simpa using ht) (by simpa using hd) (fun y hy=>h1 y (List.mem_append_right _ hy))
theorem Nw {a:Ty} {v:Value} {d:DataW H} {ps:List MemPlace} {base:Nat} (ha:mD P a (.inl t)=true) (hv:Value.okWide P W .any base t v) (h:DataW.Trod enc P W 0 (fun _=>true) true t v d ps) (hl:Light P t d):
  ∃ (x:a.den) (cs:List Value),a.top=true∧v=sv a cs∧Rp (vZ W) a x cs []∧Wf a x∧Sz a x≤bulk d:=by
 obtain ⟨fuel,hf⟩:=h
 obtain ⟨x,h1,h2,h2b⟩:=(Dv (enc:=enc) (W:=W) a).1 t ha fuel _ d ps hf hl
 refine ⟨x,v.cells.toList,?_,?_,h1,h2,h2b⟩
 ·cases a<;>first | rfl | (simp [mD] at ha;done)
 ·cases a<;>first | (simp [mD] at ha;done) | skip
  all_goals unfold mD at ha
  all_goals split at ha<;>first | (cases ha;done) | skip
  all_goals rename_i hu
  ·obtain ⟨n,rfl⟩:=okWide_int hu hv;rfl
  ·obtain ⟨n,rfl⟩:=okWide_bool hu hv;rfl
  ·obtain ⟨n,rfl⟩:=okWide_string hu hv;rfl
  ·obtain ⟨A,n,c,rfl⟩:=okWide_slice hu hv;rfl
  ·obtain ⟨cs,rfl,_⟩:=okWide_struct hu hv;rfl
theorem za {a:Ty} {v:Value} {d:DataW H} {ps:List MemPlace} {base:Nat} (ha:mD P a (.inl t)=true) (hv:Value.okWide P W .any base t v) (h:DataW.Trod enc P W 0 (fun _=>true) true t v d ps) (hl:Light P t d):
  ∃ (x:a.den) (cs:List Value),a.top=true∧v=sv a cs∧Rp (vZ W) a x cs []∧Wf a x:=
 let ⟨x,cs,h1,h2,h3,h4,_⟩:=Nw ha hv h hl
 ⟨x,cs,h1,h2,h3,h4⟩
end
end Go.Lf
/- LayoutLooks, plainly: each sign has the look that its paragraph's style and the styles about it come to. -/
namespace Go.Fn
open Go Go.Lf
theorem Sy {l:List mF} (hl:l.length≤3000) (hW: ∀ o∈l,o.2.2.2.1.length*8≤140737488355328):kP l=some l:=by
 refine Ok.eq ?_
 unfold kP
 refine Ok.ends (Ok.range l (by omega) (fun i m=>m=l.take i) (fun i o m ho hm=>?_) (fun m hm=>?_) rfl)
 ·have hlt:=a_ ho
  have hWo:=hW o (fQ ho)
  subst hm
  refine Ok.yes (by show (i:Int)<_;omega) (Ok.bind (Ok.bH ho) fun y hy=>?_)
  subst hy
  refine Ok.bind (Ok.jk (by simp only [List.length_nil];omega)) fun r hr=>?_
  rw [List.nil_append] at hr
  subst hr
  refine Ok.bind (Ok.jk (by rw [List.length_take];simp only [List.length_cons,List.length_nil];omega)) fun r hr=>Ok.inl ⟨aN (by omega),?_⟩
  subst hr
  show _=l.take (i+1)
  rw [List.take_add_one,ho];rfl
 ·refine Ok.no (by show ¬ ((l.length:Int)<_);omega) (Ok.inr ?_)
  rw [hm,List.take_length]
theorem jK {l:List mF} (hl:l.length≤3000):Ok (kQ l) fun b=>b=true→ ∀ o∈l,o.1<10:=by
 unfold kQ
 refine Ok.bind (Q:=fun d=>(d= .inl ()∧ ∀ o∈l,o.1<10)∨d= .inr false) ?_ fun d hd=>?_
 ·refine Ok.kr l (by omega) (fun i=> ∀ o∈l.take i,o.1<10) (fun i o ho hi=>?_) (fun hi=>?_) (by simp)
  ·have hlt:=a_ ho
   refine Ok.yes (by show (i:Int)<_;omega) (Ok.bind (Ok.bH ho) fun y hy=>?_)
   subst hy
   refine Ok.ifs (fun _=>Ok.inr (.inr rfl)) fun h10=>Ok.inl ⟨aN (by omega),fun x hx=>?_⟩
   have h10: ¬ 10≤o.1:=h10
   rw [List.take_add_one,ho] at hx
   rcases List.mem_append.1 hx with hx | hx
   ·exact hi x hx
   ·rw [show x=o by simpa using hx];omega
  ·rw [List.take_length] at hi
   exact Ok.no (by show ¬ ((l.length:Int)<_);omega) (Ok.inr (.inl ⟨rfl,hi⟩))
 ·rcases hd with ⟨rfl,h⟩ | rfl
  ·exact Ok.some fun _=>h
  ·exact Ok.some fun h=>(by cases h)
theorem Vj {pre post:List Gl} {g:Gl} (h:g.1≠[32]):(sg (pre++g::post))[(sg pre).length]? =some g:=by
 rw [yI,List.getElem?_append_right (Nat.le_refl _),Nat.sub_self]
 have:sg (g::post)=g::sg post:=by unfold sg;rw [List.filter_cons_of_pos (by simp [h])]
 rw [this];rfl
theorem Cb {ll:List (List Gl)} {i:Nat} {x:List Gl} (h:ll[i]? =some x):ll.flatten=(ll.take i).flatten++(x++(ll.drop (i+1)).flatten):=by
 obtain ⟨hl,he⟩:=List.getElem?_eq_some_iff.1 h
 conv=>lhs;rw [← List.take_append_drop i ll,List.drop_eq_getElem_cons hl,he]
 rw [List.flatten_append,List.flatten_cons]
abbrev Xz:Type:=List (List Gl)×(List Rc×(List Yk×(Bool×Unit)))
def LK (ch:List zS) (l:List mF) (i:Nat):List wU:=L_::vI ch l i
theorem SL (lks:List wU):(L_::lks)[(L_::lks).length - 1]? =some (rq lks):=by
 rw [← List.getLast?_eq_getElem?,List.getLast?_cons]
 rfl
theorem Kw (lks:List wU) (h:lks.length≤1000):Ok (lG (L_::lks).length (IntKind.wrap .i64 (((L_::lks).length:Int) - 1))) fun j=>nth (L_::lks) j=some (rq lks):=by
 rw [zu (by simp) (by simp only [List.length_cons];omega)]
 refine (Ok.DK (show (L_::lks).length - 1<(L_::lks).length by simp)).imp fun j hj=>?_
 subst hj
 exact SL lks
theorem Nq {sheet:List p9} {ch:List zS} (hCh:SK sheet ch) (hsh:Az sheet) (hfs:FR sheet) {p:Int} (hc:bE sheet=some (p,0)) (top:wU) {n:Int} (hn: -1≤n∧n<sheet.length):iX sheet top n=some (JJ ch top n):=by
 refine Ok.eq ?_
 unfold iX JJ
 refine Ok.ifs (fun h=>Ok.some (by rw [if_pos h])) fun hneg=>?_
 rw [if_neg hneg]
 have hneg: ¬ n<0:=hneg
 obtain ⟨m,rfl⟩:=Int.eq_ofNat_of_zero_le (show 0≤n by omega)
 obtain ⟨hlen,hall⟩:=hCh
 have hm:m<ch.length:=by omega
 obtain ⟨st,e,hst,hw⟩:=hall m ch[m] (List.getElem?_eq_getElem hm)
 refine Ok.bind (Ok.bH hst) fun x hx=>?_
 subst hx
 rw [Br hsh hfs hc,hw,Option.bind_some]
 refine Ok.ends (Ok.of ((Jg _ _).trans (Ib _ _)) ?_)
 show UQ top ch[m]=UQ top (ch[((m:Nat):Int).toNat]?.getD _)
 rw [Int.toNat_natCast,List.getElem?_eq_getElem hm];rfl
theorem MP (sheet:List p9) (l:List mF) (topics wd:Int) (hfs:FR sheet) (hT: ∀ o∈l,o.2.2.1.length≤140737488355328) (hW: ∀ o∈l,o.2.2.2.1.length*8≤140737488355328):dB sheet l topics wd=some true:=by
 refine Ok.eq ?_
 unfold dB
 rw [J7,Option.bind_some]
 refine Ok.cond (fun h=>by cases h) fun _=>?_
 refine Ok.bind (Q:=fun b=>b=false→l.length≤3000∧ ∀ o∈l,o.1<10) ?_ fun b hb=>Ok.cond (fun _=>Ok.some rfl) fun hbf=>?_
 ·cases h3:decide ((3000:Int)<((l.length:Nat):Int)) with
  | true=>exact Ok.some fun h=>(by cases h)
  | false=>
   have h3:=of_decide_eq_false h3
   refine Ok.bind (jK (by omega)) fun r2 hr2=>Ok.some fun h=>⟨by omega,hr2 ?_⟩
   cases r2 with
   | true=>rfl
   | false=>cases h
 obtain ⟨hl,hf⟩:=hb hbf
 rw [Sy hl hW,Option.bind_some]
 have hlay:=JB (CL l) (sheet:=sheet) (topics:=topics) (wd:=wd) hl hf hT (fun _ _=>rfl) fun hw hV htt ch hCh i o v v' ho hC hG hE=>by
  have hlt:=a_ ho
  exact hC.step hw hV ho (by have:=wK (fQ ho);omega) (by omega) (by
   have:=wP (l:=l) i
   omega) hG hE
 obtain ⟨r5,h5,_,hq5⟩:=hlay
 rw [h5,Option.bind_some]
 refine Ok.bind (Q:=fun q=>q.2=r5.1∧(q.1=false→r5.2=0∧r5.1.2.2.2.1=false)) ?_ fun q hq=>?_
 ·cases h0:decide ((r5.2:Int)≠0) with
  | true=>exact Ok.some ⟨rfl,fun h=>(by cases h)⟩
  | false=>exact Ok.some ⟨rfl,fun h=>⟨Classical.byContradiction fun h'=>(of_decide_eq_false h0) h',h⟩⟩
 obtain ⟨qb,qd⟩:=q
 obtain ⟨hqd,hqb⟩:=hq
 dsimp only at hqd hqb ⊢
 subst hqd
 refine Ok.cond (fun _=>Ok.some rfl) fun hqf=>?_
 obtain ⟨h50,hmore⟩:=hqb hqf
 obtain ⟨hV,htot,hw,htp,⟨p,hc⟩,ch,hCh,v,hC,hG,hv1,hv2,hv3⟩:=hq5 h50
 obtain ⟨sc,hsc,hsq⟩:=MW sheet
 rw [hc] at hsc
 injection hsc with hsc
 have hsh:Az sheet:=hsq (by rw [← hsc])
 have hpairs:(sg r5.1.1.flatten).map NM=CS ch l l.length:=by
  have:=hC (by rw [← hv2];exact hmore)
  rw [hV.2,if_pos rfl,List.append_nil, ← hv1] at this
  exact this
 have hnl:r5.1.1.length≤2000:=by rw [hv1];exact hG.nl
 have hlw: ∀ x∈r5.1.1,LW 200 x:=by rw [hv1];exact hG.ll
 obtain ⟨d,n5⟩:=r5
 dsimp only at hpairs hnl hlw ⊢
 clear hC hv1 hv2 hv3 hq5 h5 hmore hqb hqf hb hbf
 refine Ok.bind (KQ hl hw hV htot htp hsh hfs hc) fun r7 hr7=>Ok.no (fun h=>h hr7) ?_
 rw [show gT=some L_ from rfl,Option.bind_some]
 refine Ok.bind (Q:=fun r:List wU×Xz=>r=(CS ch l l.length,d)) ?_ fun r31 hr31=>?_
 ·refine Ok.loop (fun k (z:List wU×(List wU×(Int×Xz)))=> ∃ i:Nat,i+k=l.length∧z=(LK ch l i,(CS ch l i,((i:Int),d)))) (fun k z hz=>?_) l.length _ (by omega) ⟨0,by omega,rfl⟩
  obtain ⟨i,hi,rfl⟩:=hz
  refine Ok.ifs (fun hlt=>?_) fun hge=>Ok.inr ?_
  case refine_2=>
   have hge: ¬ (i:Int)<(l.length:Int):=hge
   have:i=l.length:=by omega
   rw [this]
  have hlt:(i:Int)<(l.length:Int):=hlt
  obtain ⟨o,ho⟩: ∃ o,l[i]? =some o:=⟨_,List.getElem?_eq_getElem (by omega)⟩
  obtain ⟨hF,hk⟩:=hV.1 i o ho
  have hkk:=hF.kind
  have hTo:=wK (fQ ho)
  have hwl:=GH ch (l:=l) i (by omega)
  have htt:=wP (l:=l) i
  have hkl:=Cv hV i (by omega)
  have hll:=K3 (ch:=ch) hV i (by omega)
  have hws:=QO (ch:=ch) ho
  have hls:=S_ (ch:=ch) ho
  refine Ok.bind (Q:=fun r=>r=(LK ch l (i+1),(CS ch l (i+1),d))) ?_ fun r30 hr30=>Ok.inl ⟨k - 1,by omega,i+1,by omega,?_⟩
  case refine_2=>
   subst hr30
   show (_,(_,(IntKind.wrap .i64 ((i:Int)+1),_)))=_
   rw [aN (by omega)]
  refine Ok.bind (Ok.bH ho) fun y hy=>?_
  subst hy
  refine Ok.ifs (fun h1=>?_) fun h1=>?_
  ·have h1:o.1=1:=h1
   rw [if_pos h1] at hws
   have hls:vI ch l (i+1)=vI ch l i:=by
    rw [hls]
    unfold rP
    rw [if_neg (by omega),if_neg (by omega),if_neg (by omega)]
   rw [show dQ o.2.2.1=some (cellsS o.2.2.1) from FL _ (by omega),Option.bind_some]
   have hcl:=tL o.2.2.1
   refine Ok.bind (Q:=fun r=>r=(LK ch l i,(CS ch l (i+1),d))) ?_ fun r18 hr18=>by subst hr18;unfold LK;rw [hls];exact Ok.some rfl
   refine Ok.range (cellsS o.2.2.1) (by omega) (fun j (y:List wU×(List wU×Xz))=>y=(LK ch l i,(CS ch l i++(((cellsS o.2.2.1).take j).filter fun c=>decide (c.1≠[32])).map (fun _=>rq (vI ch l i)),d))) (fun j c y hc hy=>?_) (fun y hy=>?_) ?_
   ·have hjl:=a_ hc
    subst hy
    refine Ok.yes (by show (j:Int)<_;omega) (Ok.bind (Q:=fun (y:List wU×(List wU×Xz))=>y=(LK ch l i,(CS ch l i++(((cellsS o.2.2.1).take (j+1)).filter fun c=>decide (c.1≠[32])).map (fun _=>rq (vI ch l i)),d))) ?_ fun y hy=>Ok.inl ⟨aN (by omega),hy⟩)
    refine Ok.bind (Ok.bH hc) fun x hx=>?_
    subst hx
    have htk:(cellsS o.2.2.1).take (j+1)=(cellsS o.2.2.1).take j++[c]:=by rw [List.take_add_one,hc];rfl
    have hfl:=List.length_filter_le (fun c:LF=>decide (c.1≠[32])) ((cellsS o.2.2.1).take j)
    rw [List.length_take] at hfl
    refine Ok.ifs (fun h32=>?_) fun h32=>Ok.some ?_
    ·have h32:c.1≠[32]:=h32
     have hfc:(((cellsS o.2.2.1).take (j+1)).filter fun c=>decide (c.1≠[32]))=(((cellsS o.2.2.1).take j).filter fun c=>decide (c.1≠[32]))++[c]:=by
      rw [htk,List.filter_append]
      simp [h32]
     refine Ok.bind (Kw (vI ch l i) (by omega)) fun r14 hr14=>?_
     dsimp only
     rw [show nth (LK ch l i) r14=_ from hr14,Option.bind_some]
     refine Ok.bind (Ok.jk (by simp only [List.length_map,List.length_append,List.length_cons,List.length_nil];omega)) fun w1 hw1=>Ok.some ?_
     subst hw1
     rw [hfc]
     simp only [List.map_append,List.append_assoc]
     rfl
    ·have h32: ¬ (c.1≠[32]):=h32
     have hfc:(((cellsS o.2.2.1).take (j+1)).filter fun c=>decide (c.1≠[32]))=(((cellsS o.2.2.1).take j).filter fun c=>decide (c.1≠[32])):=by
      rw [htk,List.filter_append]
      have:c.1=[32]:=Classical.byContradiction h32
      simp [this]
     rw [hfc]
   ·refine Ok.no (by show ¬ (((cellsS o.2.2.1).length:Int)<_);omega) (Ok.inr ?_)
    rw [hy,List.take_length,hws];rfl
   ·show (LK ch l i,(CS ch l i,d))=_
    simp
  ·have h1: ¬ o.1=1:=h1
   rw [if_neg h1] at hws
   rw [hws]
   refine Ok.bind (Q:=fun r=>r.2=(CS ch l i,(LK ch l i,(d,o)))∧(r.1=true↔(o.1=2∨o.1=8))) ?_ fun r19 hr19=>?_
   ·refine Ok.ifs (fun h2=>Ok.some ⟨rfl,fun _=> .inl h2,fun _=>decide_eq_true h2⟩) fun h2=>Ok.some ⟨rfl,fun h=> .inr (of_decide_eq_true h),fun h=>decide_eq_true (h.resolve_left h2)⟩
   obtain ⟨b19,r19⟩:=r19
   obtain ⟨he19,hb19⟩:=hr19
   dsimp only at he19 hb19 ⊢
   subst he19
   dsimp only
   refine Ok.cond (fun hbt=>?_) fun hbf=>?_
   ·have h28:=hb19.1 hbt
    have hls:vI ch l (i+1)=vI ch l i++[JJ ch (rq (vI ch l i)) o.2.1]:=by
     rw [hls]
     unfold rP
     rw [if_pos (by omega)]
    have hn: -1≤o.2.1∧o.2.1<sheet.length:=by
     obtain ⟨_,q | q | q | q | q⟩:=hF<;>omega
    refine Ok.bind (Kw (vI ch l i) (by omega)) fun r20 hr20=>?_
    rw [show nth (LK ch l i) r20=_ from hr20,Option.bind_some,Nq hCh hsh hfs hc _ hn,Option.bind_some]
    refine Ok.bind (Ok.jk (by show ((L_::vI ch l i).length+1)*16≤_;simp only [List.length_cons];omega)) fun r23 hr23=>Ok.some ?_
    rw [hr23]
    unfold LK
    rw [hls];rfl
   have hn28: ¬ (o.1=2∨o.1=8):=fun h=>by rw [hb19.2 h] at hbf;cases hbf
   refine Ok.bind (Q:=fun r=>r.2=(CS ch l i,(LK ch l i,d))∧(r.1=true↔(o.1=3∨o.1=4))) ?_ fun r24 hr24=>?_
   ·refine Ok.ifs (fun h2=>Ok.some ⟨rfl,fun _=> .inl h2,fun _=>decide_eq_true h2⟩) fun h2=>Ok.some ⟨rfl,fun h=> .inr (of_decide_eq_true h),fun h=>decide_eq_true (h.resolve_left h2)⟩
   obtain ⟨b24,r24⟩:=r24
   obtain ⟨he24,hb24⟩:=hr24
   dsimp only at he24 hb24 ⊢
   subst he24
   dsimp only
   refine Ok.cond (fun hbt=>?_) fun hbf=>?_
   ·have h34:=hb24.1 hbt
    have hls:vI ch l (i+1)=vI ch l i++[rq (vI ch l i)]:=by
     rw [hls]
     unfold rP
     rw [if_neg (by omega),if_pos (by omega)]
    refine Ok.bind (Kw (vI ch l i) (by omega)) fun r25 hr25=>?_
    rw [show nth (LK ch l i) r25=_ from hr25,Option.bind_some]
    refine Ok.bind (Ok.jk (by show ((L_::vI ch l i).length+1)*16≤_;simp only [List.length_cons];omega)) fun r27 hr27=>Ok.some ?_
    rw [hr27]
    unfold LK
    rw [hls];rfl
   have hn34: ¬ (o.1=3∨o.1=4):=fun h=>by rw [hb24.2 h] at hbf;cases hbf
   refine Ok.bind (Q:=fun r=>r.2=(CS ch l i,(LK ch l i,d))∧(r.1=true↔(o.1=5∨o.1=9))) ?_ fun r28 hr28=>?_
   ·refine Ok.ifs (fun h2=>Ok.some ⟨rfl,fun _=> .inl h2,fun _=>decide_eq_true h2⟩) fun h2=>Ok.some ⟨rfl,fun h=> .inr (of_decide_eq_true h),fun h=>decide_eq_true (h.resolve_left h2)⟩
   obtain ⟨b28,r28⟩:=r28
   obtain ⟨he28,hb28⟩:=hr28
   dsimp only at he28 hb28 ⊢
   subst he28
   dsimp only
   refine Ok.cond (fun hbt=>?_) fun hbf=>?_
   ·have h59:=hb28.1 hbt
    have hls:vI ch l (i+1)=(vI ch l i).dropLast:=by
     rw [hls]
     unfold rP
     rw [if_neg (by omega),if_neg (by omega),if_pos (by omega)]
    have hne:vI ch l i≠[]:=fun e=>by
     rw [e] at hll
     rcases b_ hk with q | q | q | q | q
     ·omega
     ·omega
     ·omega
     ·have:=q.2.1;simp only [List.length_nil] at hll;omega
     ·have:=q.2.1;simp only [List.length_nil] at hll;omega
    refine Ok.bind (Q:=(· =LK ch l (i+1))) (by show Ok (sub (L_::vI ch l i) 0 (IntKind.wrap .i64 (((L_::vI ch l i).length:Int) - 1))) _;rw [zu (by simp) (by simp only [List.length_cons];omega)];exact Ok.sub (by omega) (by omega) (by omega) (by unfold LK;rw [hls,Int.toNat_natCast,show Int.toNat 0=0 from rfl,List.drop_zero,Nat.sub_zero, ← List.dropLast_eq_take,List.dropLast_cons_of_ne_nil hne])) fun r29 hr29=>Ok.some ?_
    rw [hr29]
   ·have hn59: ¬ (o.1=5∨o.1=9):=fun h=>by rw [hb28.2 h] at hbf;cases hbf
    have hls:vI ch l (i+1)=vI ch l i:=by
     rw [hls]
     unfold rP
     rw [if_neg (by omega),if_neg (by omega),if_neg (by omega)]
    refine Ok.some ?_
    unfold LK
    rw [hls]
 subst hr31
 have hWl:(CS ch l l.length).length≤100000:=by
  have:=GH ch (l:=l) l.length (Nat.le_refl _)
  rw [List.take_length] at this
  omega
 generalize CS ch l l.length=P at hpairs hWl ⊢
 refine Ok.bind (Q:=fun dd=>dd= .inl (P,(P.length:Int))) ?_ fun dd hdd=>by subst hdd;exact Ok.UE (Ok.some (decide_eq_true rfl))
 refine Ok.loop (fun k (z:Int×(List wU×Int))=> ∃ i:Nat,i+k=d.1.length∧z=(((sg (d.1.take i).flatten).length:Int),(P,(i:Int)))) (fun k z hz=>?_) d.1.length _ (by omega) ⟨0,by omega,rfl⟩
 obtain ⟨i,hi,rfl⟩:=hz
 refine Ok.ifs (fun hlt=>?_) fun hge=>Ok.inr ?_
 case refine_2=>
  have hge: ¬ (i:Int)<(d.1.length:Int):=hge
  have:d.1.take i=d.1:=List.take_of_length_le (by omega)
  dsimp only
  rw [this, ← hpairs,List.length_map]
 have hlt:(i:Int)<(d.1.length:Int):=hlt
 obtain ⟨x,hx⟩: ∃ x,d.1[i]? =some x:=⟨_,List.getElem?_eq_getElem (by omega)⟩
 have hxl:=(hlw x (fQ hx)).len
 refine Ok.bind (Ok.bH hx) fun y hy=>?_
 subst hy
 have hfa:=Cb hx
 have htk:(d.1.take (i+1)).flatten=(d.1.take i).flatten++x:=by rw [List.take_add_one,hx,List.flatten_append];simp
 refine Ok.bind (Q:=fun r=>r= .inl (((sg (d.1.take (i+1)).flatten).length:Int),P)) ?_ fun r41 hr41=>?_
 ·refine Ok.range x (by omega) (fun j (y:Int×List wU)=>y=(((sg ((d.1.take i).flatten++x.take j)).length:Int),P)) (fun j g y hg hy=>?_) (fun y hy=>?_) (by simp)
  ·have hjl:=a_ hg
   subst hy
   have hxt:x.take (j+1)=x.take j++[g]:=by rw [List.take_add_one,hg];rfl
   refine Ok.yes (by show (j:Int)<_;omega) (Ok.bind (Q:=fun r=>r= .inl (((sg ((d.1.take i).flatten++x.take (j+1))).length:Int),P)) ?_ fun r38 hr38=>by subst hr38;exact Ok.inl ⟨aN (by omega),rfl⟩)
   refine Ok.bind (Ok.bH hg) fun g' hg'=>?_
   subst hg'
   rw [hxt, ← List.append_assoc]
   refine Ok.ifs (fun h32=>Ok.some ?_) fun h32=>?_
   ·have h32:g.1=[32]:=h32
    rw [yI _ [g],Da (l:=[g]) (by simpa using h32),List.append_nil]
   ·have h32: ¬ g.1=[32]:=h32
    have hsplit:d.1.flatten=((d.1.take i).flatten++x.take j)++g::(x.drop (j+1)++(d.1.drop (i+1)).flatten):=by
     rw [hfa]
     conv=>lhs;rw [← List.take_append_drop j x,List.drop_eq_getElem_cons hjl,(List.getElem?_eq_some_iff.1 hg).2]
     simp only [List.append_assoc,List.cons_append]
    have hat:=Vj (pre:=(d.1.take i).flatten++x.take j) (post:=x.drop (j+1)++(d.1.drop (i+1)).flatten) h32
    rw [← hsplit] at hat
    have hP:P[(sg ((d.1.take i).flatten++x.take j)).length]? =some (NM g):=by rw [← hpairs,List.getElem?_map,hat];rfl
    have h1:sg [g]=[g]:=S9 (by intro y hy;rw [List.mem_singleton.1 hy];exact h32)
    rw [yI _ [g],h1,List.length_append]
    generalize (sg ((d.1.take i).flatten++x.take j)).length=n at hP ⊢
    have hnl:=a_ hP
    refine Ok.bind (Q:=fun r=>r=(false,P)) ?_ fun r37 hr37=>?_
    ·have hd1:decide (((P.length:Nat):Int)≤(n:Int))=false:=decide_eq_false (by omega)
     show Ok (bif (!(decide (((P.length:Nat):Int)≤(n:Int)))) then _ else _) _
     rw [hd1]
     refine Ok.cond (fun _=>?_) fun h=>(by cases h)
     refine Ok.bind (Ok.bH hP) fun a ha=>?_
     subst ha
     refine Ok.some ?_
     rw [decide_eq_true (show (g.2.2.1.1:Int)=(NM g).1 from rfl),decide_eq_true (show (g.2.2.1.2.1:Int)=(NM g).2.1 from rfl)]
     rfl
    ·subst hr37
     refine Ok.cond (fun h=>by cases h) fun _=>Ok.some ?_
     show Sum.inl (IntKind.wrap .i64 ((n:Int)+1),_)=_
     rw [aN (by omega)];rfl
  ·refine Ok.no (by show ¬ ((x.length:Int)<_);omega) (Ok.inr ?_)
   rw [hy,List.take_length,htk]
 ·subst hr41
  refine Ok.UE (Ok.inl ⟨k - 1,by omega,i+1,by omega,?_⟩)
  show (_,(_,IntKind.wrap .i64 ((i:Int)+1)))=_
  rw [aN (by omega)]
abbrev YS:Ty:= .st (.pr (.int .i64) (.pr (.int .i64) (.pr .str (.pr (.sl (.int .i64)) .unit))))
abbrev Ya:Ty:= .st (.pr .str (.pr .str (.pr (.st (.pr (.int .i64) (.pr (.int .i64) (.pr (.int .i64) .unit)))) .unit)))
theorem KJ (sheet:List p9) (l:List mF) (topics wd:Int) (hs:Wf (.sl Ya) sheet) (h:Wf (.sl YS) l):dB sheet l topics wd=some true:=by
 have ho: ∀ o∈l,o.2.2.1.length≤140737488351232∧o.2.2.2.1.length*8≤140737488351232:=fun o ho=>by
  have h1:=h.2 o ho
  obtain ⟨_,_,h2,h3,_⟩:=h1
  exact ⟨h2,h3.1⟩
 have hfs:FR sheet:=fun s hm=>by
  have h1:=hs.2 s hm
  obtain ⟨_,_,⟨h2,h3,_⟩,_⟩:=h1
  exact ⟨h2.2,h3.2⟩
 exact MP sheet l topics wd hfs (fun o hm=>by have:=(ho o hm).1;omega) fun o hm=>by have:=(ho o hm).2;omega
end Go.Fn
