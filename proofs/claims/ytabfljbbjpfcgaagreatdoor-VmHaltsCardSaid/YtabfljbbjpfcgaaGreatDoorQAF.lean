/- Characters, plainly: a text is looked through, and taken apart into cells. -/
import Derived.Test.YtabfljbbjpfcgaaGreatDoorQAE
import Derived.Lib.MapLaws
import Derived.Lib.TrimU
import Derived.Lib.TrimUEq
import Derived.Test.YtabfljbbjpfcgaaGreatDoorProg
import Derived.Test.YtabfljbbjpfcgaaGreatDoorQAD
import Derived.KernelRfl
import Derived.Lib.ItoaLen
import Derived.Carry
import Derived.ChangeSame
import Derived.ChangeMaps5
import Derived.SizedLaws
import Derived.ChangeSlices
import Derived.SliceStrings
import Derived.ProofKit
import Derived.OpenShut
import Derived.Deep.DeepHandedRow
import Derived.Lib.LaidTab
namespace Go.Fn
open Go Go.Lf
theorem width_ok (r:Int):Ok (text_Width r) fun _=>True:=by
 rw [width_eq]
 unfold widthF
 have hc: ∀ p q:Prop, ∀ [Decidable p] [Decidable q],Ok (bif decide p then some (decide q) else some false) fun _=>True:=fun p q _ _=>Ok.ifs (fun _=>Ok.some trivial) fun _=>Ok.some trivial
 refine Ok.bind (Q:=fun _=>True) (Ok.bind (Q:=fun _=>True) ?_ fun d _=>Ok.onSum (fun _ _=>Ok.some trivial) fun _ _=>Ok.some trivial) fun d _=>Ok.onSum (fun _ _=>Ok.some trivial) fun _ _=>?_
 ·refine Ok.bind (hc _ _) fun _ _=>Ok.cond (fun _=>Ok.some trivial) fun _=>?_
  refine Ok.bind (hc _ _) fun _ _=>Ok.cond (fun _=>Ok.some trivial) fun _=>?_
  refine Ok.bind (hc _ _) fun _ _=>Ok.cond (fun _=>Ok.some trivial) fun _=>?_
  refine Ok.bind (hc _ _) fun _ _=>Ok.cond (fun _=>Ok.some trivial) fun _=>?_
  exact Ok.bind (hc _ _) fun _ _=>Ok.cond (fun _=>Ok.some trivial) fun _=>Ok.some trivial
 ·refine Ok.bind (Q:=fun _=>True) ?_ fun _ _=>Ok.onSum (fun _ _=>Ok.some trivial) fun _ _=>Ok.some trivial
  refine iter_ok (fun k z=>0≤z∧z+(k:Int)=13) (fun k z hz=>?_) 4000 13 0 (by omega) ⟨by omega,by omega⟩
  refine Ok.ifs (fun hlt=>?_) fun _=>Ok.inr trivial
  have hl:wideL.length=13:=rfl
  refine Ok.bind (Ok.at_ (Q:=fun _=>True) hz.1 (by omega) trivial) fun p _=>Ok.bind (hc _ _) fun _ _=>Ok.cond (fun _=>Ok.inr trivial) fun _=>Ok.inl ⟨k - 1,by omega,?_,?_⟩
  ·rw [wrap64 (by omega) (by omega)];omega
  ·rw [wrap64 (by omega) (by omega)];omega
theorem runeW_ok (l:List UInt8) (p:Nat) (h:p<l.length): ∃ w:Nat,runeW l (p:Int)=w∧1≤w∧p+w≤l.length:=by
 have hne:l.drop p≠[]:=by intro e;have:=congrArg List.length e;simp at this;omega
 have h1:=Lib.decodeL_width (l.drop p)
 have h2:=Lib.decodeL_le (l.drop p) hne
 rw [List.length_drop] at h2
 refine ⟨(Lib.decodeL (l.drop p)).2,?_,h1,by omega⟩
 unfold runeW
 rw [Int.toNat_natCast, ← Lib.decodeL_drop]
theorem dec_ok (l:List UInt8) (h:l≠[]):Ok (utf8_Decode l) fun r=> ∃ w:Nat,r.2=w∧1≤w∧w≤l.length:=by
 refine ⟨_,rfl,(Lib.decodeL l).2,?_,Lib.decodeL_width l,Lib.decodeL_le l h⟩
 have hg:Lib.decodeGo ⟨l.toArray⟩=Lib.decodeL l:=by
  unfold Lib.decodeGo Lib.decodeL
  have:(⟨l.toArray⟩:ByteArray).size≠0:=by
   show l.toArray.size≠0
   simpa using h
  rw [if_neg this]
 show ((Lib.decodeGo ⟨l.toArray⟩).2:Int)=_
 rw [hg]
theorem dec_tot (l:List UInt8):Ok (utf8_Decode l) fun _=>True:=⟨_,rfl,trivial⟩
theorem control_ok (r:Int):Ok (text_control r) fun _=>True:=by
 unfold text_control
 repeat' first | exact Ok.some trivial | refine Ok.bind (Q:=fun _=>True) ?_ (fun _ _=>?_) | refine Ok.cond (fun _=>?_) (fun _=>?_)
theorem bad_ok (l:List UInt8) (p:Nat) (h:p≤l.length):Ok (text_bad l (p:Int)) fun _=>True:=by
 unfold text_bad
 refine Ok.bind (Ok.sub (Q:=fun _=>True) (by omega) (by omega) (by omega) trivial) fun t _=>Ok.bind (dec_tot t) fun r _=>Ok.ends (Ok.ifs (fun _=>Ok.some trivial) fun _=>Ok.some trivial)
theorem plain_tot (l:List UInt8) (hl:l.length≤1000000000000):Ok (text_Plain l) fun _=>True:=by
 unfold text_Plain
 refine Ok.bind (Q:=fun _=>True) ?_ fun _ _=>Ok.onSum (fun _ _=>Ok.some trivial) fun _ _=>Ok.some trivial
 refine Ok.loop (fun k (z:List UInt8×Int)=> ∃ p:Nat,z=(l,(p:Int))∧p+k=l.length) (fun k z hz=>?_) l.length _ (by omega) ⟨0,rfl,by omega⟩
 obtain ⟨p,rfl,hp⟩:=hz
 refine Ok.ifs (fun hlt=>?_) fun _=>Ok.inr trivial
 have hlt:(p:Int)<(l.length:Int):=hlt
 obtain ⟨w,hw,hw1,hw2⟩:=runeW_ok l p (by omega)
 refine Ok.bind (Q:=fun r=>r.2=(l,((p+w:Nat):Int))) (Ok.bind (control_ok _) fun b _=>?_) fun r hr=>Ok.cond (fun _=>Ok.inr trivial) fun _=>Ok.inl ⟨k - w,by omega,p+w,hr,by omega⟩
 have e:((l,(p:Int)+runeW l (p:Int)):List UInt8×Int)=(l,((p+w:Nat):Int)):=by rw [hw];rfl
 refine Ok.cond (fun _=>Ok.ifs (fun _=>Ok.bind (bad_ok l p (by omega)) fun _ _=>Ok.some e) fun _=>Ok.some e) fun _=>Ok.some e
abbrev Cel:Type:=List UInt8×(Int×(Int×Unit))
theorem cells_ok (s:List UInt8) (hs:s.length≤1000000000):Ok (text_Cells s) fun r=>r.length≤s.length:=by
 unfold text_Cells
 refine Ok.ends (Ok.loop (fun k (z:Int×List Cel)=>(0≤z.1∧z.1+(k:Int)=s.length)∧(z.2.length:Int)≤z.1∧ ∀ c∈z.2,(c.1.length:Int)≤z.1) (fun k z hz=>?_) s.length _ (by omega) ⟨⟨by show (0:Int)≤0;omega,by show (0:Int)+_=_;omega⟩,by show (0:Int)≤0;omega,by simp⟩)
 obtain ⟨i,l⟩:=z
 obtain ⟨⟨hz1,hz2⟩,hz3,hz4⟩:=hz
 dsimp only at hz1 hz2 hz3 hz4 ⊢
 refine Ok.ifs (fun hlt=>?_) fun hge=>Ok.inr (by omega)
 refine Ok.bind (Ok.sub (Q:=fun t=>(t.length:Int)=s.length - i) hz1 (by omega) (by omega) (by rw [List.length_take,List.length_drop];omega)) fun t ht=>?_
 refine Ok.bind (dec_ok t (by intro h;rw [h] at ht;simp at ht;omega)) fun r hr=>?_
 obtain ⟨w,hw,hw1,hw2⟩:=hr
 have en:IntKind.wrap .i64 (i+r.2)=i+w:=by rw [hw];exact wrap64 (by omega) (by omega)
 refine Ok.bind (width_ok _) fun wd _=>?_
 refine Ok.bind (Q:=fun m:List Cel=>(m.length:Int)≤i+w∧ ∀ c∈m,(c.1.length:Int)≤i+w) ?_ fun m hm=>Ok.inl ⟨k - w,by omega,⟨?_,?_⟩,?_,?_⟩
 ·refine Ok.bind (Q:=fun q=>q.2=l∧(q.1=true→0<l.length)) (Ok.ifs (fun _=>Ok.some ⟨rfl,fun h=>by have:=of_decide_eq_true h;omega⟩) fun _=>Ok.some ⟨rfl,fun h=>(by cases h)⟩) fun q hq=>?_
  obtain ⟨b,l'⟩:=q
  obtain ⟨hq1,hq2⟩:=hq
  dsimp only at hq1 hq2 ⊢
  subst hq1
  have hsub: ∀ {Q:List UInt8→Prop},(∀ u:List UInt8,u.length=w→Q u)→Ok (sub s i (IntKind.wrap .i64 (i+r.2))) Q:=fun {Q} h=>by
   rw [en]
   exact Ok.sub hz1 (by omega) (by omega) (h _ (by rw [List.length_take,List.length_drop];omega))
  refine Ok.cond (fun h=>?_) fun _=>?_
  ·have hpos:=hq2 h
   have e1:IntKind.wrap .i64 (((l'.length:Nat):Int) - 1)=l'.length - 1:=wrap64 (by omega) (by omega)
   refine Ok.bind (Ok.chk (Q:=fun k=>k<l'.length) (by rw [e1];omega) (by rw [e1];omega) (by rw [e1];omega)) fun j hj=>?_
   refine Ok.bind (Ok.nth (Q:=fun c=>(c.1.length:Int)≤i) hj (hz4 _ (List.getElem_mem hj))) fun c hc=>?_
   refine Ok.bind (hsub (Q:=fun u=>u.length=w) fun u hu=>hu) fun u hu=>?_
   refine Ok.bind (Ok.cat (Q:=fun v=>(v.length:Int)≤i+w) (by omega) (by rw [List.length_append];omega)) fun v hv=>?_
   refine Ok.bind (Ok.chk (Q:=fun k=>k<l'.length) (by rw [e1];omega) (by rw [e1];omega) (by rw [e1];omega)) fun j2 hj2=>?_
   refine Ok.bind (Ok.nth (Q:=fun _=>True) hj2 trivial) fun c2 _=>Ok.some ⟨?_,fun c hc=>?_⟩
   ·rw [List.length_set];omega
   ·rcases List.mem_or_eq_of_mem_set hc with hc | hc
    ·have:=hz4 c hc
     omega
    ·rw [hc];exact hv
  ·refine Ok.bind (hsub (Q:=fun u=>u.length=w) fun u hu=>hu) fun u hu=>Ok.ends ?_
   refine (Ok.appE (by simp only [List.length_cons,List.length_nil];omega)).imp fun m hm=>⟨?_,fun c hc=>?_⟩
   ·rw [hm,List.length_append];simp only [List.length_cons,List.length_nil];omega
   ·rw [hm] at hc
    rcases List.mem_append.1 hc with hc | hc
    ·have:=hz4 c hc
     omega
    ·rw [List.mem_singleton.1 hc]
     show (u.length:Int)≤_
     omega
 ·show 0≤IntKind.wrap .i64 (i+r.2)
  rw [en];omega
 ·show IntKind.wrap .i64 (i+r.2)+_=_
  rw [en];omega
 ·show (m.length:Int)≤IntKind.wrap .i64 (i+r.2)
  rw [en];exact hm.1
 ·show ∀ c∈m,(c.1.length:Int)≤IntKind.wrap .i64 (i+r.2)
  rw [en];exact hm.2
end Go.Fn
/- What passes the check may run: instructions as a walk over what is open. -/
namespace Go.Fn
open Go Go.Lf
section
variable {α:Type}
def kso (l:List (Int×α)) (d:Nat):List Int:=((l.map (·.1)).take d).reverse
theorem kso_len {l:List (Int×α)} {d:Nat} (h:d≤l.length):(kso l d).length=d:=by
 unfold kso
 rw [List.length_reverse,List.length_take,List.length_map];omega
theorem kso_push {l:List (Int×α)} {d:Nat} {f:Int×α} (h:d<l.length):kso (l.set d f) (d+1)=f.1::kso l d:=by
 unfold kso
 rw [List.map_set,List.take_add_one,List.take_set_of_le (Nat.le_refl _),List.getElem?_set_self (by rw [List.length_map];exact h)]
 simp
theorem kso_pop {l:List (Int×α)} {d:Nat} (h:d<l.length):kso l (d+1)=l[d].1::kso l d:=by
 unfold kso
 rw [List.take_add_one,List.getElem?_map,List.getElem?_eq_getElem h]
 simp
theorem kso_keep {l:List (Int×α)} {d j:Nat} {f:Int×α} (hj:j<l.length) (h:f.1=l[j].1):kso (l.set j f) d=kso l d:=by
 unfold kso
 rw [List.map_set,h]
 congr 2
 exact List.ext_getElem? fun n=>by
  by_cases hn:j=n
  ·subst hn
   rw [List.getElem?_set_self (by rw [List.length_map];exact hj),List.getElem?_map,List.getElem?_eq_getElem hj]
   rfl
  ·rw [List.getElem?_set_ne hn]
theorem kso_cut {l:List (Int×α)} {d j:Nat} {f:Int×α} (h:d≤j):kso (l.set j f) d=kso l d:=by
 unfold kso
 rw [List.map_set,List.take_set_of_le h]
end
abbrev Cfr:Type:=Int×xT7
abbrev Cw:Type:=(((Int)×xT7)×xT155)×xT35
def cst (w:Cw):List Cfr:=arL xY39 32 w.1
def wks (w:Cw):List Int:=kso (cst w) w.2.1.toNat
theorem cst_len (w:Cw):(cst w).length=32:=arL_len
theorem cst_set (w:Cw) (j:Nat) (f:Cfr) (x:xT35):cst (arS xY39 32 w.1 j f,x)=(cst w).set j f:=arL_arS
theorem wks_congr {w w':Cw} (h1:w'.1=w.1) (h2:w'.2.1=w.2.1):wks w'=wks w:=by unfold wks cst;rw [h1,h2]
def LL (l:List Int):Prop:=l.length≤8∧ ∀ k∈l,k=10∨k=12
structure CI (w:Cw):Prop where
 d0:0≤w.2.1
 d32:w.2.1≤32
 sh:(w.2.2.1=1∧ ∃ M L,wks w=M++8::L∧(∀ k∈M,k=2∨k=3∨k=4)∧(M.length:Int)=w.2.2.2.1∧M.length≤16∧LL L)∨(w.2.2.1≠1∧w.2.2.2.1=0∧LL (wks w))
theorem CI.len {w:Cw} (h:CI w):((wks w).length:Int)=w.2.1:=by
 have:=h.d0
 have:=h.d32
 unfold wks
 rw [kso_len (by rw [cst_len];omega)]
 omega
theorem CI.le {w:Cw} (h:CI w):w.2.1≤25:=by
 have:=h.len
 rcases h.sh with ⟨_,M,L,h1,_,_,h4,h5,_⟩ | ⟨_,_,h5,_⟩
 ·rw [h1,List.length_append,List.length_cons] at this;omega
 ·omega
inductive KS:Int→List Int→List Int→Prop where
 | text {ks:List Int}:KS 1 ks ks
 | flat {k:Int} {ks:List Int}:k=6∨k=7→KS k ks ks
 | mark {k:Int} {ks:List Int}:k=2∨k=3∨k=4→ks.length<32→KS k ks (k::ks)
 | close {k:Int} {ks:List Int}:k≠10→k≠12→KS 5 (k::ks) ks
 | para {ks:List Int}:ks.length<32→KS 8 ks (8::ks)
 | done {ks:List Int}:KS 9 (8::ks) ks
 | list {ks:List Int}:ks.length<32→KS 10 ks (10::ks)
 | item {ks:List Int}:KS 11 (10::ks) (10::ks)
 | table {ks:List Int}:ks.length<32→KS 12 ks (12::ks)
 | row {ks:List Int}:KS 13 (12::ks) (12::ks)
 | fin {k:Int} {ks:List Int}:k=10∨k=12→KS 14 (k::ks) ks
theorem cpush_ok {w:Cw} {f:Cfr} (h0:0≤w.2.1) (h1:w.2.1<32):Ok (check_walk__push w f) fun r=>r=(arS xY39 32 w.1 w.2.1.toNat f,(w.2.1+1,w.2.2))∧wks r=f.1::wks w:=by
 unfold check_walk__push
 have e:IntKind.wrap .i64 (w.2.1+1)=w.2.1+1:=wrap64 (by omega) (by omega)
 refine Ok.bind (Ok.chk (Q:=(w.2.1.toNat= ·)) h0 h1 rfl) fun j hj=>?_
 subst hj
 refine Ok.bind (Ok.nth (Q:=fun _=>True) (by have:=cst_len w;show _<(cst w).length;omega) trivial) fun _ _=>Ok.some ?_
 rw [e]
 refine ⟨rfl,?_⟩
 unfold wks
 rw [cst_set]
 show kso _ (w.2.1+1).toNat=_
 rw [show (w.2.1+1).toNat=w.2.1.toNat+1 by omega]
 exact kso_push (by have:=cst_len w;show _<(cst w).length;omega)
theorem ctop_ok {w:Cw} (h0:0≤w.2.1) (h1:w.2.1≤32):Ok (check_walk__top w) fun r=>(w.2.1=0∧r=none)∨(0<w.2.1∧r=some (w.2.1.toNat - 1)):=by
 have h:Ok (check_walk__topP w) fun r=>(w.2.1=0∧r.1=none)∨(0<w.2.1∧r.1=some (w.2.1.toNat - 1)):=by
  unfold check_walk__topP
  refine Ok.ifs (fun h=>Ok.some (.inl ⟨h,rfl⟩)) fun h=>?_
  have e:IntKind.wrap .i64 (w.2.1 - 1)=w.2.1 - 1:=wrap64 (by omega) (by omega)
  refine Ok.bind (Ok.chk (Q:=(· =w.2.1.toNat - 1)) (by rw [e];omega) (by rw [e];omega) (by rw [e];omega)) fun j hj=>Ok.some (.inr ⟨by omega,?_⟩)
  show some j=_
  rw [hj]
 obtain ⟨r,hr,hq⟩:=h
 exact ⟨r.1,by unfold check_walk__top;rw [hr];rfl,hq⟩
theorem wks_pop {w:Cw} (h0:0<w.2.1) (h1:w.2.1≤32): ∃ hj:w.2.1.toNat - 1<(cst w).length,wks w=(cst w)[w.2.1.toNat - 1].1::kso (cst w) (w.2.1.toNat - 1):=by
 have hl:=cst_len w
 refine ⟨by omega,?_⟩
 unfold wks
 have:=kso_pop (l:=cst w) (d:=w.2.1.toNat - 1) (by omega)
 rw [show w.2.1.toNat - 1+1=w.2.1.toNat by omega] at this
 exact this
theorem LL.tail {k:Int} {l:List Int} (h:LL (k::l)):LL l:=⟨by have:=h.1;rw [List.length_cons] at this;omega,fun x hx=>h.2 x (List.mem_cons_of_mem _ hx)⟩
def PS (i:Ins) (w w':Cw):Prop:=CI w'∧w'.2.2.2.2.2.2=w.2.2.2.2.2.2∧i.2.2.1≠15∧KS i.2.2.1 (wks w) (wks w')
set_option maxRecDepth 4000 in
theorem inner_ok {w:Cw} {i:Ins} (h:CI w) (hp:w.2.2.1=1):Ok (check_walk__inner w i) fun r=>r.1=true→PS i w r.2:=by
 unfold check_walk__inner
 obtain ⟨M,L,hks,hM,hm,hM16,hL⟩: ∃ M L,wks w=M++8::L∧(∀ k∈M,k=2∨k=3∨k=4)∧(M.length:Int)=w.2.2.2.1∧M.length≤16∧LL L:=by
  rcases h.sh with ⟨_,h⟩ | ⟨h,_⟩
  ·exact h
  ·exact absurd hp h
 have h0:=h.d0
 have h25:=h.le
 have hlen:=h.len
 refine Ok.bind (Q:=Nx (fun p:Cw×Ins=>p=(w,i)∧(i.2.2.1=2∨i.2.2.1=3∨i.2.2.1=4)) (Nx (fun p:Cw=>p=w∧i.2.2.1=5) (Nx (fun p:Cw=>p=w∧i.2.2.1=9) (Nx (fun _=>True) (fun p:Bool×Cw=>p.2=w∧(p.1=true→i.2.2.1=1∨i.2.2.1=6∨i.2.2.1=7)))))) ?_ fun d hd=>?_
 ·refine Ok.ifs (fun h1=>Ok.inr ⟨rfl,fun _=> .inl h1⟩) fun h1=>?_
  refine Ok.bind (Q:=fun q=>q.2=(w,i)∧(q.1=true→i.2.2.1=6∨i.2.2.1=7)) (Ok.ifs (fun h=>Ok.some ⟨rfl,fun _=> .inl h⟩) fun _=>Ok.some ⟨rfl,fun h=> .inr (of_decide_eq_true h)⟩) fun q hq=>?_
  obtain ⟨b,q⟩:=q
  obtain ⟨rfl,hq2⟩:=hq
  refine Ok.cond (fun h=>Ok.inr ⟨rfl,fun _=> .inr (hq2 h)⟩) fun _=>?_
  refine Ok.bind (Q:=fun q=>q.2=(w,i)∧(q.1=true→i.2.2.1=3∨i.2.2.1=4)) (Ok.ifs (fun h=>Ok.some ⟨rfl,fun _=> .inl h⟩) fun _=>Ok.some ⟨rfl,fun h=> .inr (of_decide_eq_true h)⟩) fun q hq=>?_
  obtain ⟨b',q⟩:=q
  obtain ⟨rfl,hq3⟩:=hq
  refine Ok.cond (fun h=>Ok.ifs (fun _=>Ok.inr ⟨rfl,fun h=>(by cases h)⟩) fun _=>Ok.inl ⟨rfl, .inr (hq3 h)⟩) fun _=>Ok.ifs (fun h=>Ok.inl ⟨rfl, .inl h⟩) fun _=>Ok.ifs (fun h=>Ok.inr ⟨rfl,h⟩) fun _=>Ok.ifs (fun h=>Ok.inr ⟨rfl,h⟩) fun _=>Ok.inr trivial
 ·cases d with
  | inl p=>
   obtain ⟨rfl,hk⟩:=hd
   refine Ok.onL (Ok.ifs (fun _=>Ok.some fun h=>(by cases h)) fun h16=>?_)
   have h16: ¬ ((16:Int)≤w.2.2.2.1):=h16
   refine Ok.bind (cpush_ok (w:=w) (f:=(i.2.2.1,(0,(0,(0,(0,())))))) h0 (by omega)) fun r5 hr5=>?_
   obtain ⟨hr5,hr5k⟩:=hr5
   have em:IntKind.wrap .i64 (w.2.2.2.1+1)=w.2.2.2.1+1:=wrap64 (by omega) (by omega)
   refine Ok.bind (Q:=fun q:Cw=>q.1=r5.1∧q.2.1=w.2.1+1∧q.2.2.1=w.2.2.1∧q.2.2.2.1=w.2.2.2.1+1∧q.2.2.2.2.2.2=w.2.2.2.2.2.2) ?_ fun q hq=>Ok.some fun _=>?_
   ·rw [hr5]
    exact Ok.ifs (fun _=>Ok.some ⟨rfl,rfl,rfl,em,rfl⟩) fun _=>Ok.some ⟨rfl,rfl,rfl,em,rfl⟩
   ·obtain ⟨q1,q2,q3,q4,q5⟩:=hq
    have hqk:wks q=i.2.2.1::wks w:=by rw [← hr5k];exact wks_congr q1 (by rw [q2,hr5])
    refine ⟨⟨by show 0≤q.2.1;omega,by show q.2.1≤32;omega, .inl ⟨by show q.2.2.1=1;rw [q3];exact hp,i.2.2.1::M,L,?_,?_,?_,?_,hL⟩⟩,q5,by omega,?_⟩
    ·show wks q=_
     rw [hqk,hks];rfl
    ·intro k hk'
     rcases List.mem_cons.1 hk' with rfl | hk'
     ·exact hk
     ·exact hM k hk'
    ·show _=q.2.2.2.1
     rw [q4,List.length_cons];omega
    ·rw [List.length_cons];omega
    ·show KS _ _ (wks q)
     rw [hqk]
     exact .mark hk (by omega)
  | inr d=>
   cases d with
   | inl p=>
    obtain ⟨rfl,hk⟩:=hd
    refine Ok.onR (Ok.onL (Ok.ifs (fun _=>Ok.some fun h=>(by cases h)) fun hm0=>?_))
    have hm0: ¬ (p.2.2.2.1=0):=hm0
    obtain ⟨x,M',rfl⟩: ∃ x M',M=x::M':=by
     cases M with
     | nil=>exact absurd hm.symm hm0
     | cons x M'=>exact ⟨x,M',rfl⟩
    have hpos:0<p.2.1:=by
     rw [hks,List.cons_append,List.length_cons] at hlen
     omega
    obtain ⟨hj,hpop⟩:=wks_pop hpos h.d32
    refine Ok.bind (Q:=fun q:Cw=>q.1=p.1∧q.2.1=p.2.1∧q.2.2.1=p.2.2.1∧q.2.2.2.1=p.2.2.2.1∧q.2.2.2.2.2.2=p.2.2.2.2.2.2) ?_ fun q hq=>Ok.some fun _=>?_
    ·refine Ok.bind (ctop_ok h0 h.d32) fun r hr=>?_
     rcases hr with ⟨hr,_⟩ | ⟨_,rfl⟩
     ·omega
     ·refine Ok.bind (Ok.some (Q:=(· =p.2.1.toNat - 1)) rfl) fun j hj'=>?_
      subst hj'
      exact Ok.bind (Ok.nth (Q:=fun _=>True) hj trivial) fun _ _=>Ok.ifs (fun _=>Ok.some ⟨rfl,rfl,rfl,rfl,rfl⟩) fun _=>Ok.some ⟨rfl,rfl,rfl,rfl,rfl⟩
    ·obtain ⟨q1,q2,q3,q4,q5⟩:=hq
     have ed:IntKind.wrap .i64 (q.2.1 - 1)=p.2.1 - 1:=by rw [q2];exact wrap64 (by omega) (by omega)
     have em:IntKind.wrap .i64 (q.2.2.2.1 - 1)=p.2.2.2.1 - 1:=by rw [q4];exact wrap64 (by rw [← hm];omega) (by omega)
     have hqk:wks (q.1,(IntKind.wrap .i64 (q.2.1 - 1),(q.2.2.1,(IntKind.wrap .i64 (q.2.2.2.1 - 1),q.2.2.2.2))))=M'++8::L:=by
      rw [hks,List.cons_append,List.cons.injEq] at hpop
      rw [hpop.2]
      unfold wks
      show kso (arL xY39 32 q.1) (IntKind.wrap .i64 (q.2.1 - 1)).toNat=_
      rw [ed,q1,show (p.2.1 - 1).toNat=p.2.1.toNat - 1 by omega]
      rfl
     have hx:x=2∨x=3∨x=4:=hM x List.mem_cons_self
     rw [List.length_cons] at hm hM16
     refine ⟨⟨by show 0≤IntKind.wrap .i64 (q.2.1 - 1);rw [ed];omega,by show IntKind.wrap .i64 (q.2.1 - 1)≤32;rw [ed];omega, .inl ⟨by show q.2.2.1=1;rw [q3];exact hp,M',L,hqk,fun k hk=>hM k (List.mem_cons_of_mem _ hk),?_,by omega,hL⟩⟩,q5,by omega,?_⟩
     ·show _=IntKind.wrap .i64 (q.2.2.2.1 - 1)
      rw [em];omega
     ·show KS _ _ (wks (q.1,(IntKind.wrap .i64 (q.2.1 - 1),(q.2.2.1,(IntKind.wrap .i64 (q.2.2.2.1 - 1),q.2.2.2.2)))))
      rw [hqk,hks,hk]
      exact .close (by omega) (by omega)
   | inr d=>
    cases d with
    | inl p=>
     obtain ⟨rfl,hk⟩:=hd
     refine Ok.onR (Ok.onR (Ok.onL (Ok.ifs (fun _=>Ok.some fun h=>(by cases h)) fun hm0=>?_)))
     have hm0: ¬ (0<p.2.2.2.1):=hm0
     obtain rfl:M=[]:=List.eq_nil_of_length_eq_zero (by omega)
     rw [List.nil_append] at hks
     have hpos:0<p.2.1:=by
      rw [hks,List.length_cons] at hlen
      omega
     obtain ⟨hj,hpop⟩:=wks_pop hpos h.d32
     rw [hks,List.cons.injEq] at hpop
     have ed:IntKind.wrap .i64 (p.2.1 - 1)=p.2.1 - 1:=wrap64 (by omega) (by omega)
     simp only [ed]
     have hL8:=hL.1
     have hll:L.length=(p.2.1 - 1).toNat:=by
      rw [hks,List.length_cons] at hlen
      omega
     have hin: ∀ {q:Cw},kso (cst q) (p.2.1.toNat - 1)=L→q.2.1=p.2.1 - 1→q.2.2.1=0→q.2.2.2=p.2.2.2→PS i p q:=fun {q} h1 h2 h3 h4=>by
      have hwk:wks q=L:=by
       unfold wks
       rw [h2,show (p.2.1 - 1).toNat=p.2.1.toNat - 1 by omega]
       exact h1
      refine ⟨⟨by rw [h2];omega,by rw [h2];omega, .inr ⟨by rw [h3];decide,by rw [h4, ← hm];rfl,by rw [hwk];exact hL⟩⟩,by rw [h4],by omega,?_⟩
      rw [hwk,hks,hk]
      exact .done
     refine Ok.bind (Q:=fun q:Cw=>PS i p q) ?_ fun q hq=>Ok.some fun _=>hq
     refine Ok.bind (ctop_ok (w:=(p.1,(p.2.1 - 1,(0,p.2.2.2)))) (by show 0≤p.2.1 - 1;omega) (by show p.2.1 - 1≤32;omega)) fun r hr=>?_
     rcases hr with ⟨_,rfl⟩ | ⟨hr1,rfl⟩
     ·exact Ok.bind (Q:=fun b=>b.2=(p.1,(p.2.1 - 1,(0,p.2.2.2)))∧b.1=false) (Ok.some ⟨rfl,rfl⟩) fun b hb=>by
       obtain ⟨c,b⟩:=b
       obtain ⟨rfl,rfl⟩:=hb
       exact Ok.some (hin hpop.2.symm rfl rfl rfl)
     ·have hr1:0<p.2.1 - 1:=hr1
      have hj2:(p.2.1 - 1).toNat - 1<(cst p).length:=by omega
      dsimp only
      refine Ok.bind (Q:=fun b=>b.2=(p.1,(p.2.1 - 1,(0,p.2.2.2)))) ?_ fun b hb=>?_
      ·exact Ok.bind (Ok.nth (Q:=fun _=>True) hj2 trivial) fun _ _=>Ok.some rfl
      ·obtain ⟨c,b⟩:=b
       obtain rfl:=hb
       refine Ok.cond (fun _=>?_) fun _=>Ok.some (hin hpop.2.symm rfl rfl rfl)
       refine Ok.bind (Ok.some (Q:=(· =(p.2.1 - 1).toNat - 1)) rfl) fun j hj'=>?_
       subst hj'
       refine Ok.bind (Ok.nth (Q:=fun _=>True) hj2 trivial) fun _ _=>Ok.bind (Ok.some (Q:=(· =(p.2.1 - 1).toNat - 1)) rfl) fun j hj'=>?_
       subst hj'
       refine Ok.bind (Ok.nth (l:=cst p) (Q:=(· =(cst p)[(p.2.1 - 1).toNat - 1])) hj2 rfl) fun f hf=>Ok.some (hin ?_ rfl rfl rfl)
       refine (congrArg (fun l=>kso l (p.2.1.toNat - 1)) (cst_set p _ _ _)).trans ?_
       refine (kso_keep hj2 ?_).trans hpop.2.symm
       rw [← hf]
    | inr d=>
     cases d with
     | inl p=>exact Ok.onR (Ok.onR (Ok.onR (Ok.onL (Ok.some fun h=>(by cases h)))))
     | inr p=>
      obtain ⟨b,p⟩:=p
      obtain ⟨rfl,hk⟩:=hd
      refine Ok.onR (Ok.onR (Ok.onR (Ok.onR (Ok.some fun hb=>⟨h,rfl,?_,?_⟩))))
      ·have:=hk hb
       omega
      ·show KS _ (wks p) (wks p)
       rcases hk hb with hk | hk
       ·rw [hk];exact .text
       ·exact .flat hk
end Go.Fn
/- The check, plainly: what passes it is a walk from nothing to nothing. -/
namespace Go.Fn
open Go Go.Lf
theorem Ok.sb {α β:Type} {x:α} {f:α→Option β} {Q:β→Prop} (h:Ok (f x) Q):Ok ((Option.some x).bind f) Q:=h
theorem place_ok {w:Cw} {i:Ins} (h:CI w):Ok (check_walk__place w i) fun r=>r.1=true→(r.2=w∧i.2.2.1=15∧wks w=[])∨PS i w r.2:=by
 unfold check_walk__place
 refine Ok.ifs (fun hp=>Ok.ends ((inner_ok h hp).imp fun r hr hb=> .inr (hr hb))) fun hp=>?_
 obtain ⟨hm0,hLL⟩:w.2.2.2.1=0∧LL (wks w):=by
  rcases h.sh with ⟨h',_⟩ | ⟨_,h'⟩
  ·exact absurd h' hp
  ·exact h'
 have h0:=h.d0
 have h32:=h.d32
 have h25:=h.le
 have hlen:=h.len
 refine Ok.bind (ctop_ok h0 h32) fun r2 hr=>?_
 have htop:0<w.2.1→ ∃ hj:w.2.1.toNat - 1<(cst w).length,wks w=(cst w)[w.2.1.toNat - 1].1::kso (cst w) (w.2.1.toNat - 1):=fun hpos=>wks_pop hpos h32
 have hnth: ∀ {Q:Cfr→Prop},0<w.2.1→(∀ hj:w.2.1.toNat - 1<(cst w).length,Q (cst w)[w.2.1.toNat - 1])→Ok (nth (cst w) (w.2.1.toNat - 1)) Q:=fun hpos hq=>by
  obtain ⟨hj,_⟩:=htop hpos
  exact Ok.nth hj (hq hj)
 have hset: ∀ {f:Cfr} {x:xT35},0<w.2.1→(∀ hj:w.2.1.toNat - 1<(cst w).length,f.1=(cst w)[w.2.1.toNat - 1].1)→x.1=w.2.1→wks (arS xY39 32 w.1 (w.2.1.toNat - 1) f,x)=wks w:=fun {f x} hpos hf hx=>by
  obtain ⟨hj,_⟩:=htop hpos
  unfold wks
  refine (congrArg (fun l=>kso l _) (cst_set w _ _ _)).trans ?_
  rw [kso_keep hj (hf hj)]
  show kso _ x.1.toNat=_
  rw [hx]
 refine Ok.bind (Q:=fun b:Bool×(Cw×Ins)=>b.2=(w,i)) ?_ fun b7 hb7=>?_
 ·rcases hr with ⟨_,rfl⟩ | ⟨hpos,rfl⟩
  ·exact Ok.some rfl
  ·exact Ok.cond (fun _=>Ok.sb (Ok.bind (hnth (Q:=fun _=>True) hpos fun _=>trivial) fun _ _=>Ok.ifs (fun _=>Ok.sb (Ok.bind (hnth (Q:=fun _=>True) hpos fun _=>trivial) fun _ _=>Ok.some rfl)) fun _=>Ok.some rfl)) fun h=>(by cases h)
 obtain ⟨c7,b7⟩:=b7
 obtain rfl:=hb7
 refine Ok.bind (Q:=fun b:Bool×(Cw×Ins)=>b.2=(w,i)) ?_ fun b16 hb16=>?_
 ·rcases hr with ⟨_,rfl⟩ | ⟨hpos,rfl⟩
  ·exact Ok.some rfl
  ·have hn:=fun (f:Cfr→Option (Bool×(Cw×Ins))) (hf: ∀ y,Ok (f y) fun b=>b.2=(w,i))=>Ok.sb (x:=w.2.1.toNat - 1) (f:=fun j=>(nth (cst w) j).bind f) (Ok.bind (hnth (Q:=fun _=>True) hpos fun _=>trivial) fun y _=>hf y)
   exact Ok.cond (fun _=>hn _ fun _=>Ok.ifs (fun _=>hn _ fun _=>Ok.ifs (fun _=>hn _ fun _=>hn _ fun _=>Ok.some rfl) fun _=>Ok.some rfl) fun _=>Ok.some rfl) fun h=>(by cases h)
 obtain ⟨c16,b16⟩:=b16
 obtain rfl:=hb16
 dsimp only
 refine Ok.bind (Q:=Nx (fun p:Bool×Cw=>p.1=true→p.2=w∧i.2.2.1=15∧wks w=[]) (fun w'=>PS i w w')) ?_ fun d hd=>?_
 ·have hpush: ∀ {f:Cfr} {Q:Cw→Prop},(∀ r:Cw,r=(arS xY39 32 w.1 w.2.1.toNat f,(w.2.1+1,w.2.2))→wks r=f.1::wks w→Q r)→Ok (check_walk__push w f) Q:=fun hq=>(cpush_ok h0 (by omega)).imp fun r hr=>hq r hr.1 hr.2
  have hKS: ∀ {k:Int} {ks:List Int} {q:Cw},i.2.2.1=k→k≠15→q.2.2.2.2.2.2=w.2.2.2.2.2.2→wks q=ks→KS k (wks w) ks→CI q→PS i w q:=fun hk h15 hs hw hks hc=>⟨hc,hs,by rw [hk];exact h15,by rw [hk,hw];exact hks⟩
  refine Ok.ifs (fun hk=>Ok.inl fun hb=>⟨rfl,hk,?_⟩) fun h15=>Ok.ifs (fun hk=>?_) fun h8=>Ok.ifs (fun hk=>?_) fun h10=>Ok.ifs (fun hk=>?_) fun h11=>Ok.ifs (fun hk=>?_) fun h12=>?_
  ·rcases hr with ⟨hz,rfl⟩ | ⟨_,rfl⟩
   ·exact List.eq_nil_of_length_eq_zero (by omega)
   ·cases hb
  ·refine Ok.bind (Q:=fun b:Bool×(Cw×Ins)=>b.2=(w,i)) ?_ fun b hb=>?_
   ·refine Ok.cond (fun _=>Ok.cond (fun _=>Ok.some rfl) fun _=>Ok.some rfl) fun _=>Ok.some rfl
   obtain ⟨c,b⟩:=b
   obtain rfl:=hb
   refine Ok.cond (fun _=>Ok.inl fun h=>(by cases h)) fun _=>Ok.bind (hpush (Q:=fun r=>r=(arS xY39 32 w.1 w.2.1.toNat (i.2.2.1,(0,(0,(0,(0,()))))),(w.2.1+1,w.2.2))∧wks r=i.2.2.1::wks w) fun r h1 h2=>⟨h1,h2⟩) fun r hr=>Ok.inr ?_
   obtain ⟨hr1,hr2⟩:=hr
   have hw:wks (u2 r ((1:Int),r.2.2.2))=8::wks w:=by rw [← hk, ← hr2];exact wks_congr rfl rfl
   refine hKS hk (by decide) (by rw [hr1]) hw (.para (by omega)) ⟨?_,?_, .inl ⟨rfl,[],wks w,hw,by simp,?_,by simp,hLL⟩⟩
   ·show 0≤r.2.1
    rw [hr1];show 0≤w.2.1+1;omega
   ·show r.2.1≤32
    rw [hr1];show w.2.1+1≤32;omega
   ·show _=r.2.2.2.1
    rw [hr1];exact hm0.symm
  ·refine Ok.bind (Q:=fun b:Bool×(Cw×Ins)=>b.2=(w,i)∧(b.1=false→w.2.1<8)) ?_ fun b hb=>?_
   ·refine Ok.cond (fun _=>Ok.cond (fun _=>Ok.some ⟨rfl,fun h=>by have:=of_decide_eq_false h;omega⟩) fun _=>Ok.some ⟨rfl,fun h=>(by cases h)⟩) fun _=>Ok.some ⟨rfl,fun h=>by have:=of_decide_eq_false h;omega⟩
   obtain ⟨c,b⟩:=b
   obtain ⟨rfl,hd8⟩:=hb
   refine Ok.cond (fun _=>Ok.inl fun h=>(by cases h)) fun hc=>Ok.bind (hpush (Q:=fun r=>r=(arS xY39 32 w.1 w.2.1.toNat (i.2.2.1,(0,(0,(0,(0,()))))),(w.2.1+1,w.2.2))∧wks r=i.2.2.1::wks w) fun r h1 h2=>⟨h1,h2⟩) fun r hr=>Ok.inr ?_
   obtain ⟨hr1,hr2⟩:=hr
   have hd8:=hd8 hc
   rw [hk] at hr2
   refine hKS hk (by decide) (by rw [hr1]) hr2 (.list (by omega)) ⟨?_,?_, .inr ⟨?_,?_,?_⟩⟩
   ·rw [hr1];show 0≤w.2.1+1;omega
   ·rw [hr1];show w.2.1+1≤32;omega
   ·rw [hr1];exact hp
   ·rw [hr1];exact hm0
   ·rw [hr2]
    refine ⟨by rw [List.length_cons];omega,fun k hk=>?_⟩
    rcases List.mem_cons.1 hk with rfl | hk
    ·exact .inl rfl
    ·exact hLL.2 k hk
  ·refine Ok.bind (Q:=fun b:Bool×Cw=>b.2=w∧(b.1=false→0<w.2.1∧r2=some (w.2.1.toNat - 1)∧ ∀ hj:w.2.1.toNat - 1<(cst w).length,(cst w)[w.2.1.toNat - 1].1=10)) ?_ fun b hb=>?_
   ·rcases hr with ⟨_,rfl⟩ | ⟨hpos,rfl⟩
    ·exact Ok.some ⟨rfl,fun h=>(by cases h)⟩
    ·exact Ok.cond (fun _=>Ok.sb (Ok.bind (hnth (Q:=fun f=> ∀ hj:w.2.1.toNat - 1<(cst w).length,f=(cst w)[w.2.1.toNat - 1]) hpos fun _ _=>rfl) fun f hf=>Ok.some ⟨rfl,fun h=>⟨hpos,rfl,fun hj=>by rw [← hf hj];exact Decidable.not_not.1 (of_decide_eq_false h)⟩⟩)) fun h=>(by cases h)
   obtain ⟨c,b⟩:=b
   obtain ⟨rfl,hb⟩:=hb
   refine Ok.cond (fun _=>Ok.inl fun h=>(by cases h)) fun hc=>?_
   obtain ⟨hpos,rfl,h10k⟩:=hb hc
   refine Ok.sb (Ok.bind (hnth (Q:=fun _=>True) hpos fun _=>trivial) fun g _=>Ok.sb (Ok.bind (hnth (Q:=fun f=> ∀ hj:b.2.1.toNat - 1<(cst b).length,f=(cst b)[b.2.1.toNat - 1]) hpos fun _ _=>rfl) fun f hf=>Ok.inr ?_))
   have hw:=hset (f:=(f.1,(IntKind.wrap .i64 (g.2.1+1),f.2.2))) (x:=b.2) hpos (fun hj=>by rw [← hf hj]) rfl
   obtain ⟨hj,hpop⟩:=htop hpos
   refine hKS hk (by decide) rfl hw ?_ ⟨h0,h32, .inr ⟨hp,hm0,by rw [hw];exact hLL⟩⟩
   rw [hpop,h10k hj]
   exact .item
  ·rcases hr with ⟨hz,rfl⟩ | ⟨hpos,rfl⟩
   ·refine Ok.bind (hpush (Q:=fun r=>r=(arS xY39 32 w.1 w.2.1.toNat (i.2.2.1,(0,(0,(0,(((i.2.2.2.2.1.length:Nat):Int),()))))),(w.2.1+1,w.2.2))∧wks r=i.2.2.1::wks w) fun r h1 h2=>⟨h1,h2⟩) fun r hr=>Ok.inr ?_
    obtain ⟨hr1,hr2⟩:=hr
    rw [hk] at hr2
    refine hKS hk (by decide) (by rw [hr1]) hr2 (.table (by omega)) ⟨?_,?_, .inr ⟨?_,?_,?_⟩⟩
    ·rw [hr1];show 0≤w.2.1+1;omega
    ·rw [hr1];show w.2.1+1≤32;omega
    ·rw [hr1];exact hp
    ·rw [hr1];exact hm0
    ·rw [hr2]
     refine ⟨by rw [List.length_cons];omega,fun k hk=>?_⟩
     rcases List.mem_cons.1 hk with rfl | hk
     ·exact .inr rfl
     ·exact hLL.2 k hk
   ·exact Ok.inl fun h=>(by cases h)
  ·refine Ok.bind (Q:=fun b:Bool×(Cw×Ins)=>b.2=(w,i)∧(b.1=true→i.2.2.1=13∨i.2.2.1=14)) (Ok.ifs (fun h=>Ok.some ⟨rfl,fun _=> .inl h⟩) fun _=>Ok.some ⟨rfl,fun h=> .inr (of_decide_eq_true h)⟩) fun b hb=>?_
   obtain ⟨c,b⟩:=b
   obtain ⟨rfl,hk⟩:=hb
   refine Ok.cond (fun hc=>?_) fun _=>Ok.inl fun h=>(by cases h)
   have hk:=hk hc
   refine Ok.bind (Q:=fun b:Bool×(Cw×Ins)=>b.2=(w,i)∧(b.1=false→0<w.2.1∧r2=some (w.2.1.toNat - 1)∧(i.2.2.1=13→ ∀ hj:w.2.1.toNat - 1<(cst w).length,(cst w)[w.2.1.toNat - 1].1=12))) ?_ fun b hb=>?_
   ·rcases hr with ⟨_,rfl⟩ | ⟨hpos,rfl⟩
    ·exact Ok.some ⟨rfl,fun h=>(by cases h)⟩
    ·refine Ok.cond (fun _=>Ok.cond (fun _=>Ok.ifs (fun _=>?_) fun h13=>Ok.some ⟨rfl,fun _=>⟨hpos,rfl,fun h=>absurd h h13⟩⟩) fun _=>Ok.some ⟨rfl,fun h=>(by cases h)⟩) fun _=>Ok.some ⟨rfl,fun h=>(by cases h)⟩
     exact Ok.sb (Ok.bind (hnth (Q:=fun f=> ∀ hj:w.2.1.toNat - 1<(cst w).length,f=(cst w)[w.2.1.toNat - 1]) hpos fun _ _=>rfl) fun f hf=>Ok.some ⟨rfl,fun h=>⟨hpos,rfl,fun _ hj=>by rw [← hf hj];exact Decidable.not_not.1 (of_decide_eq_false h)⟩⟩)
   obtain ⟨c,b⟩:=b
   obtain ⟨rfl,hb⟩:=hb
   refine Ok.cond (fun _=>Ok.inl fun h=>(by cases h)) fun hc=>?_
   obtain ⟨hpos,rfl,h12k⟩:=hb hc
   obtain ⟨hj,hpop⟩:=htop hpos
   refine Ok.ifs (fun h14=>Ok.inr ?_) fun h14=>?_
   ·have ed:IntKind.wrap .i64 (w.2.1 - 1)=w.2.1 - 1:=wrap64 (by omega) (by omega)
    have hw:wks (w.1,(IntKind.wrap .i64 (w.2.1 - 1),w.2.2))=kso (cst w) (w.2.1.toNat - 1):=by
     unfold wks
     show kso (cst w) (IntKind.wrap .i64 (w.2.1 - 1)).toNat=_
     rw [ed,show (w.2.1 - 1).toNat=w.2.1.toNat - 1 by omega]
    rw [hpop] at hLL
    refine hKS h14 (by decide) rfl hw ?_ ⟨?_,?_, .inr ⟨hp,hm0,by rw [hw];exact hLL.tail⟩⟩
    ·rw [hpop]
     exact .fin (hLL.2 _ List.mem_cons_self)
    ·show 0≤IntKind.wrap .i64 (w.2.1 - 1)
     rw [ed];omega
    ·show IntKind.wrap .i64 (w.2.1 - 1)≤32
     rw [ed];omega
   ·have h13:i.2.2.1=13:=by
     rcases hk with hk | hk
     ·exact hk
     ·exact absurd hk h14
    have h12:=h12k h13 hj
    refine Ok.sb (Ok.bind (hnth (Q:=fun _=>True) hpos fun _=>trivial) fun g _=>Ok.sb (Ok.bind (hnth (Q:=fun f=> ∀ hj:w.2.1.toNat - 1<(cst w).length,f=(cst w)[w.2.1.toNat - 1]) hpos fun _ _=>rfl) fun f hf=>Ok.sb ?_))
    have hl2:(arL xY39 32 (arS xY39 32 w.1 (w.2.1.toNat - 1) (u2 f (IntKind.wrap .i64 (g.2.2.1+1),f.2.2.2))):List Cfr)=(cst w).set (w.2.1.toNat - 1) (u2 f (IntKind.wrap .i64 (g.2.2.1+1),f.2.2.2)):=arL_arS
    have hf:=hf hj
    refine Ok.bind (Q:=fun f':Cfr=>f'.1=f.1) ⟨u2 f (IntKind.wrap .i64 (g.2.2.1+1),f.2.2.2),?_,rfl⟩ fun f' hf'=>Ok.inr ?_
    ·unfold nth
     refine (congrArg (fun l:List Cfr=>l[w.2.1.toNat - 1]?) hl2).trans ?_
     exact List.getElem?_set_self hj
    ·have hw:wks (arS xY39 32 (arS xY39 32 w.1 (w.2.1.toNat - 1) (u2 f (IntKind.wrap .i64 (g.2.2.1+1),f.2.2.2))) (w.2.1.toNat - 1) (u3 f' ((0:Int),f'.2.2.2.2)),w.2)=wks w:=by
      unfold wks
      show kso (arL xY39 32 (arS xY39 32 (arS xY39 32 w.1 _ _) _ _)) w.2.1.toNat=_
      refine (congrArg (fun l:List Cfr=>kso l w.2.1.toNat) (show (_:List Cfr)=((cst w).set (w.2.1.toNat - 1) (u2 f (IntKind.wrap .i64 (g.2.2.1+1),f.2.2.2))).set (w.2.1.toNat - 1) (u3 f' ((0:Int),f'.2.2.2.2)) from arL_arS.trans (congrArg (fun l:List Cfr=>l.set _ _) hl2))).trans ?_
      rw [kso_keep (by rw [List.length_set];exact hj) (by rw [List.getElem_set_self];exact hf'),kso_keep hj (by rw [← hf])]
     refine hKS h13 (by decide) rfl hw ?_ ⟨h0,h32, .inr ⟨hp,hm0,by rw [hw];exact hLL⟩⟩
     rw [hpop,h12]
     exact .row
 ·cases d with
  | inl p=>exact Ok.onL (Ok.some fun hb=> .inl (hd hb))
  | inr p=>exact Ok.onR (Ok.some fun _=> .inr hd)
end Go.Fn
open Go Go.Lf
set_option maxRecDepth 10000
namespace Go.Fn
noncomputable def folioref12_SameCtx:Lf.Ctx:=⟨84,Tys,[],[],[],[],[],TysEq,[],some 4611686018427387904,TysIm,[]⟩
noncomputable def folioref12_SameCode:Go.Code:=(Go.Proofs.Tryz.f20.body).getD .skip
def folioref12_SameAnn:Lf.Ann:=(.seq .no (.seq .no (.seq (.seq .no (.loop ⟨[1,0],[],[(5,(.int .i64))],[],[]⟩ (.more (.ext 0) ⟨[],[],[],[],[]⟩ (.one .ret ⟨[],[],[(4, .bool)],[],[]⟩)) (.seq .no (.seq (.seq (.join (.one .nrm ⟨[1,0,5],[],[(83, .bool)],[],[]⟩) (.draw 67)) .no) .no)))) .no)))
noncomputable def folioref12_Same (a0:List xT25) (a1:List xT25):Option (Bool):=
 bif (decide (((((List.length a0):Nat):Int):Int)≠(((List.length a1):Nat):Int))) then some false
 else (Lf.loopU (σ:=Int) (κ:=(Unit)⊕(Bool)) (fun z1=>
   bif (decide (z1<(((List.length a0):Nat):Int))) then (((Lf.idx a0 z1)).bind fun r2=>
    ((Lf.idx a1 z1)).bind fun r3=>
    bif (!(decide ((r2.1:List (UInt8))≠r3.1))) then ((Lf.idx a0 z1)).bind fun r4=>
    ((Lf.idx a1 z1)).bind fun r5=>
    bif (!(decide ((r4.2.1:Int)≠r5.2.1))) then ((Lf.idx a0 z1)).bind fun r6=>
    ((Lf.idx a1 z1)).bind fun r7=>
    bif (!(decide ((r6.2.2.1.1:Int)≠r7.2.2.1.1))) then ((Lf.idx a0 z1)).bind fun r8=>
    ((Lf.idx a1 z1)).bind fun r9=>
    bif (!(decide ((r8.2.2.1.2.1:Int)≠r9.2.2.1.2.1))) then ((Lf.idx a0 z1)).bind fun r10=>
    ((Lf.idx a1 z1)).bind fun r11=>
    some (decide ((r10.2.2.2.1:Int)≠r11.2.2.2.1))
    else some true
    else some true
    else some true
    else some true).bind fun r12=>
   bif r12 then some (.inr (.inr false))
   else some (.inl (Go.IntKind.wrap .i64 (z1+(1:Int))))
   else some (.inr (.inl ()))) (0:Int):Option ((Unit)⊕(Bool))).bind fun r13=>
 Lf.onSum r13 (fun a14=>
 some true) (fun b15=>
 some b15)
theorem folioref12_Same_eq (a0:List xT25) (a1:List xT25):Lf.fnE folioref12_SameCtx folioref12_SameCode folioref12_SameAnn [.val (.sl (.st xY42)), .val (.sl (.st xY42))] [.bool] [.tmp 4] (a0,a1)=folioref12_Same a0 a1:=by kernel_rfl
noncomputable def folioref12_SameEnt:Nat×Lf.Entry:=(20,⟨[.val (.sl (.st xY42)), .val (.sl (.st xY42))],[.bool],fun z=>folioref12_Same z.1 z.2⟩)
theorem folioref12_Same_ok:Lf.EntryOk Go.Proofs.Tryz.prog GG 20 folioref12_SameEnt.2:=
 Lf.fn_ok (c:=folioref12_SameCtx) (code:=folioref12_SameCode) (an:=folioref12_SameAnn) (slots:=[.tmp 4]) (fn:=Go.Proofs.Tryz.f20) (by kernel_rfl) ⟨Tys_ok,Lf.FnsOk.look .nil,Lf.IpsOk.look .nil,TysEq_ok,TysIm_ok,Lf.IvsOk.look .nil,Lf.FxsOk.look .nil⟩ (by kernel_rfl) (by kernel_rfl) (by kernel_rfl) (by kernel_rfl) (by kernel_rfl) (Nat.le_of_ble_eq_true rfl) (by simp [Lf.Ty.top]) (by simp [Lf.Ty.top]) fun z r h=>(folioref12_Same_eq z.1 z.2).trans h
noncomputable def folioref12_SameAllCtx:Lf.Ctx:=⟨27,Tys,[folioref12_SameEnt],[],[],[],[],TysEq,[],some 4611686018427387904,TysIm,[]⟩
noncomputable def folioref12_SameAllCode:Go.Code:=(Go.Proofs.Tryz.f29.body).getD .skip
def folioref12_SameAllAnn:Lf.Ann:=(.seq .no (.seq .no (.seq (.seq .no (.loop ⟨[1,0],[],[(5,(.int .i64))],[],[]⟩ (.more (.ext 0) ⟨[],[],[],[],[]⟩ (.one .ret ⟨[],[],[(4, .bool)],[],[]⟩)) (.seq .no (.seq (.seq (.draw 10) .no) .no)))) .no)))
noncomputable def folioref12_SameAll (a0:List (List xT25)) (a1:List (List xT25)):Option (Bool):=
 bif (decide (((((List.length a0):Nat):Int):Int)≠(((List.length a1):Nat):Int))) then some false
 else (Lf.loopU (σ:=Int) (κ:=(Unit)⊕(Bool)) (fun z1=>
   bif (decide (z1<(((List.length a0):Nat):Int))) then ((Lf.idx a0 z1)).bind fun r2=>
   ((Lf.idx a1 z1)).bind fun r3=>
   ((Go.Fn.folioref12_Same r2 r3)).bind fun r4=>
   bif (!r4) then some (.inr (.inr false))
   else some (.inl (Go.IntKind.wrap .i64 (z1+(1:Int))))
   else some (.inr (.inl ()))) (0:Int):Option ((Unit)⊕(Bool))).bind fun r5=>
 Lf.onSum r5 (fun a6=>
 some true) (fun b7=>
 some b7)
theorem folioref12_SameAll_eq (a0:List (List xT25)) (a1:List (List xT25)):Lf.fnE folioref12_SameAllCtx folioref12_SameAllCode folioref12_SameAllAnn [.val (.sl (.sl (.st xY42))), .val (.sl (.sl (.st xY42)))] [.bool] [.tmp 4] (a0,a1)=folioref12_SameAll a0 a1:=by kernel_rfl
noncomputable def folioref12_SameAllEnt:Nat×Lf.Entry:=(29,⟨[.val (.sl (.sl (.st xY42))), .val (.sl (.sl (.st xY42)))],[.bool],fun z=>folioref12_SameAll z.1 z.2⟩)
theorem folioref12_SameAll_ok:Lf.EntryOk Go.Proofs.Tryz.prog GG 29 folioref12_SameAllEnt.2:=
 Lf.fn_ok (c:=folioref12_SameAllCtx) (code:=folioref12_SameAllCode) (an:=folioref12_SameAllAnn) (slots:=[.tmp 4]) (fn:=Go.Proofs.Tryz.f29) (by kernel_rfl) ⟨Tys_ok,Lf.FnsOk.look (.con folioref12_Same_ok .nil),Lf.IpsOk.look .nil,TysEq_ok,TysIm_ok,Lf.IvsOk.look .nil,Lf.FxsOk.look .nil⟩ (by kernel_rfl) (by kernel_rfl) (by kernel_rfl) (by kernel_rfl) (by kernel_rfl) (Nat.le_of_ble_eq_true rfl) (by simp [Lf.Ty.top]) (by simp [Lf.Ty.top]) fun z r h=>(folioref12_SameAll_eq z.1 z.2).trans h
noncomputable def foliolaw18_twinCtx:Lf.Ctx:=⟨6,Tys,[],[2],[],[(2,(.rw 72 (.st (.pr .str xY33))))],[],TysEq,[],some 4611686018427387904,TysIm,[]⟩
noncomputable def foliolaw18_twinCode:Go.Code:=(Go.Proofs.Tryz.f10.body).getD .skip
def foliolaw18_twinAnn:Lf.Ann:= .no
noncomputable def foliolaw18_twin (a0:List ((List (UInt8))×xT18)):Option (List ((List (UInt8))×xT18)):=
 ((Lf.app (56:Nat) ([]:List ((List (UInt8))×xT18)) a0)).bind fun r1=>
 some r1
theorem foliolaw18_twin_eq (a0:List ((List (UInt8))×xT18)):Lf.fnE foliolaw18_twinCtx foliolaw18_twinCode foliolaw18_twinAnn [.val (.sl (.st (.pr .str xY33)))] [(.rw 72 (.st (.pr .str xY33)))] [.tmp 2] (a0)=foliolaw18_twin a0:=by kernel_rfl
noncomputable def foliolaw18_twinEnt:Nat×Lf.Entry:=(10,⟨[.val (.sl (.st (.pr .str xY33)))],[(.rw 72 (.st (.pr .str xY33)))],fun z=>foliolaw18_twin z⟩)
theorem foliolaw18_twin_ok:Lf.EntryOk Go.Proofs.Tryz.prog GG 10 foliolaw18_twinEnt.2:=
 Lf.fn_ok (c:=foliolaw18_twinCtx) (code:=foliolaw18_twinCode) (an:=foliolaw18_twinAnn) (slots:=[.tmp 2]) (fn:=Go.Proofs.Tryz.f10) (by kernel_rfl) ⟨Tys_ok,Lf.FnsOk.look .nil,Lf.IpsOk.look .nil,TysEq_ok,TysIm_ok,Lf.IvsOk.look .nil,Lf.FxsOk.look .nil⟩ (by kernel_rfl) (by kernel_rfl) (by kernel_rfl) (by kernel_rfl) (by kernel_rfl) (Nat.le_of_ble_eq_true rfl) (by simp [Lf.Ty.top]) (by simp [Lf.Ty.top]) fun z r h=>(foliolaw18_twin_eq z).trans h
end Go.Fn
open Go Go.Lf
set_option maxRecDepth 10000
namespace Go.Fn
noncomputable def check_CheckCtx:Lf.Ctx:=⟨26,Tys,[check_runEnt],[14],[],[],[],TysEq,[],some 4611686018427387904,TysIm,[]⟩
noncomputable def check_CheckCode:Go.Code:=(Go.Proofs.Tryz.f34.body).getD .skip
def check_CheckAnn:Lf.Ann:= .no
noncomputable def check_Check (a0:List (Int)) (a1:List (UInt8)) (a2:Int) (a3:Int):Option ((Int)×(Int)):=
 ((Go.Fn.check_run a0 a1 a2 a3)).bind fun r1=>
 some r1.2.2
theorem check_Check_eq (a0:List (Int)) (a1:List (UInt8)) (a2:Int) (a3:Int):Lf.fnE check_CheckCtx check_CheckCode check_CheckAnn [.val (.sl (.int .u8)), .val .str, .val (.int .i64), .val (.int .i64)] [(.int .i64),(.int .i64)] [.tmp 8, .tmp 9] (a0,a1,a2,a3)=check_Check a0 a1 a2 a3:=by kernel_rfl
noncomputable def check_CheckEnt:Nat×Lf.Entry:=(34,⟨[.val (.sl (.int .u8)), .val .str, .val (.int .i64), .val (.int .i64)],[(.int .i64),(.int .i64)],fun z=>check_Check z.1 z.2.1 z.2.2.1 z.2.2.2⟩)
theorem check_Check_ok:Lf.EntryOk Go.Proofs.Tryz.prog GG 34 check_CheckEnt.2:=
 Lf.fn_ok (c:=check_CheckCtx) (code:=check_CheckCode) (an:=check_CheckAnn) (slots:=[.tmp 8, .tmp 9]) (fn:=Go.Proofs.Tryz.f34) (by kernel_rfl) ⟨Tys_ok,Lf.FnsOk.look (.con check_run_ok .nil),Lf.IpsOk.look .nil,TysEq_ok,TysIm_ok,Lf.IvsOk.look .nil,Lf.FxsOk.look .nil⟩ (by kernel_rfl) (by kernel_rfl) (by kernel_rfl) (by kernel_rfl) (by kernel_rfl) (Nat.le_of_ble_eq_true rfl) (by simp [Lf.Ty.top]) (by simp [Lf.Ty.top]) fun z r h=>(check_Check_eq z.1 z.2.1 z.2.2.1 z.2.2.2).trans h
noncomputable def vm_NewCtx:Lf.Ctx:=⟨87,Tys,[code_InstrsEnt,style_CheckEnt,check_CheckEnt,style_WholeEnt],[27,37,70],[],[(51,(.st (.pr (.int .i64) (.pr (.rw 70 xY16) xY193)))),(70,(.rw 70 xY16))],[],TysEq,[],some 4611686018427387904,TysIm,[]⟩
noncomputable def vm_NewCode:Go.Code:=(Go.Proofs.Tryz.f14.body).getD .skip
def vm_NewAnn:Lf.Ann:=(.seq .no (.seq (.seq (.join (.one .nrm ⟨[0,1,4,2,3],[],[(26, .bool)],[],[]⟩) .no) .no) (.seq .no (.seq .no (.seq .no (.seq .no (.seq (.seq .no (.loop ⟨[0,53,1,54],[(16, .ref 52 [] 0)],[(55,(.int .i64))],[(52,86,(.st (.pr (.int .i64) (.pr (.rw 70 xY16) xY193))))],[]⟩ (.one (.ext 0) ⟨[1],[(16, .ref 52 [] 0)],[],[(52,86,(.st (.pr (.int .i64) (.pr (.rw 70 xY16) xY193))))],[]⟩) (.seq .no (.seq .no (.seq (.seq .no (.seq .no (.soup 7))) .no))))) .no)))))))
noncomputable def vm_New (a0:List xT32) (a1:List (Int)) (a2:List (UInt8)) (a3:Int) (a4:Int):Option ((Option ((Int)×(xT3×xT171)))×(Int)):=
 (bif (!(decide (a4<(10:Int)))) then some (decide ((200:Int)<a4))
  else some true).bind fun r1=>
 bif r1 then some ((none:Option ((Int)×(xT3×xT171))),(1:Int))
 else ((Go.Fn.style_Check a0)).bind fun r2=>
 bif (decide ((r2.2:Int)≠(0:Int))) then some ((none:Option ((Int)×(xT3×xT171))),r2.2)
 else bif (decide ((1000:Int)<a3)) then some ((none:Option ((Int)×(xT3×xT171))),(2:Int))
 else ((Go.Fn.check_Check a1 a2 (((List.length a0):Nat):Int) a3)).bind fun r3=>
 bif (decide ((r3.2:Int)≠(0:Int))) then some ((none:Option ((Int)×(xT3×xT171))),r3.2)
 else (Lf.loopU (σ:=(Int)×((Int)×(xT3×xT171))) (κ:=(Int)×(xT3×xT171)) (fun z4=>
   bif (decide (z4.1<(((List.length a0):Nat):Int))) then ((Lf.idx a0 z4.1)).bind fun r5=>
   ((Go.Fn.style_Whole a0 r5.1)).bind fun r6=>
   ((Lf.app (24:Nat) z4.2.2.1 (r6.1::([]:List ((Int)×((Int)×((Int)×(Unit)))))))).bind fun r7=>
   some (.inl ((Go.IntKind.wrap .i64 (z4.1+(1:Int))),(z4.2.1,(r7,z4.2.2.2))))
   else some (.inr z4.2)) ((0:Int),((1:Int),(([]:List ((Int)×((Int)×((Int)×(Unit))))),(([]:List ((Int)×((Int)×xT4))),(a2,(a4,((0:Int),((0:Int),(false,((((0:Int),((0:Int),(((0:Int),((0:Int),())),()))),(((0:Int),((0:Int),(((0:Int),((0:Int),())),()))),(((0:Int),((0:Int),(((0:Int),((0:Int),())),()))),(((0:Int),((0:Int),(((0:Int),((0:Int),())),()))),(((0:Int),((0:Int),(((0:Int),((0:Int),())),()))),(((0:Int),((0:Int),(((0:Int),((0:Int),())),()))),(((0:Int),((0:Int),(((0:Int),((0:Int),())),()))),(((0:Int),((0:Int),(((0:Int),((0:Int),())),()))),(((0:Int),((0:Int),(((0:Int),((0:Int),())),()))),(((0:Int),((0:Int),(((0:Int),((0:Int),())),()))),(((0:Int),((0:Int),(((0:Int),((0:Int),())),()))),(((0:Int),((0:Int),(((0:Int),((0:Int),())),()))),(((0:Int),((0:Int),(((0:Int),((0:Int),())),()))),(((0:Int),((0:Int),(((0:Int),((0:Int),())),()))),(((0:Int),((0:Int),(((0:Int),((0:Int),())),()))),(((0:Int),((0:Int),(((0:Int),((0:Int),())),()))),(((0:Int),((0:Int),(((0:Int),((0:Int),())),()))),(((0:Int),((0:Int),(((0:Int),((0:Int),())),()))),(((0:Int),((0:Int),(((0:Int),((0:Int),())),()))),(((0:Int),((0:Int),(((0:Int),((0:Int),())),()))),(((0:Int),((0:Int),(((0:Int),((0:Int),())),()))),(((0:Int),((0:Int),(((0:Int),((0:Int),())),()))),(((0:Int),((0:Int),(((0:Int),((0:Int),())),()))),(((0:Int),((0:Int),(((0:Int),((0:Int),())),()))),(((0:Int),((0:Int),(((0:Int),((0:Int),())),()))),(((0:Int),((0:Int),(((0:Int),((0:Int),())),()))),(((0:Int),((0:Int),(((0:Int),((0:Int),())),()))),(((0:Int),((0:Int),(((0:Int),((0:Int),())),()))),(((0:Int),((0:Int),(((0:Int),((0:Int),())),()))),(((0:Int),((0:Int),(((0:Int),((0:Int),())),()))),(((0:Int),((0:Int),(((0:Int),((0:Int),())),()))),(((0:Int),((0:Int),(((0:Int),((0:Int),())),()))),())))))))))))))))))))))))))))))))),((0:Int),(([]:List ((Int)×((Int)×(Unit)))),(([]:List xT25),(([]:List (List xT25)),(([]:List ((Int)×((Int)×(Unit)))),(false,(false,((0:Int),(([]:List (UInt8)),((0:Int),(false,((0:Int),(([]:List ((Int)×((Int)×(Unit)))),(([]:List (List xT25)),(false,()))))))))))))))))))))))))):Option ((Int)×(xT3×xT171))).bind fun r8=>
 ((Go.Fn.code_Instrs a1)).bind fun r9=>
 some ((some (Lf.u2 r8 (r9.1,r8.2.2.2))),(0:Int))
theorem vm_New_eq (a0:List xT32) (a1:List (Int)) (a2:List (UInt8)) (a3:Int) (a4:Int):Lf.fnE vm_NewCtx vm_NewCode vm_NewAnn [.val xY46, .val (.sl (.int .u8)), .val .str, .val (.int .i64), .val (.int .i64)] [(.bo 86 (.st xY197)),(.int .i64)] [.tmp 10, .tmp 11] (a0,a1,a2,a3,a4)=vm_New a0 a1 a2 a3 a4:=by kernel_rfl
noncomputable def vm_NewEnt:Nat×Lf.Entry:=(14,⟨[.val xY46, .val (.sl (.int .u8)), .val .str, .val (.int .i64), .val (.int .i64)],[(.bo 86 (.st xY197)),(.int .i64)],fun z=>vm_New z.1 z.2.1 z.2.2.1 z.2.2.2.1 z.2.2.2.2⟩)
theorem vm_New_ok:Lf.EntryOk Go.Proofs.Tryz.prog GG 14 vm_NewEnt.2:=
 Lf.fn_ok (c:=vm_NewCtx) (code:=vm_NewCode) (an:=vm_NewAnn) (slots:=[.tmp 10, .tmp 11]) (fn:=Go.Proofs.Tryz.f14) (by kernel_rfl) ⟨Tys_ok,Lf.FnsOk.look (.con code_Instrs_ok (.con style_Check_ok (.con check_Check_ok (.con style_Whole_ok .nil)))),Lf.IpsOk.look .nil,TysEq_ok,TysIm_ok,Lf.IvsOk.look .nil,Lf.FxsOk.look .nil⟩ (by kernel_rfl) (by kernel_rfl) (by kernel_rfl) (by kernel_rfl) (by kernel_rfl) (Nat.le_of_ble_eq_true rfl) (by simp [Lf.Ty.top]) (by simp [Lf.Ty.top]) fun z r h=>(vm_New_eq z.1 z.2.1 z.2.2.1 z.2.2.2.1 z.2.2.2.2).trans h
noncomputable def foliolaw18_awakeCtx:Lf.Ctx:=⟨101,Tys,[vm_NewEnt,vm_Machine__StepEnt,vm_Machine__LineEnt,vm_Machine__HaltedEnt,vm_Machine__StackEnt,vm_Machine__LinesEnt,vm_Machine__RunEnt],[6,9,1],[],[(7000021, .dead 1 .unit)],[],TysEq,[],some 4611686018427387904,TysIm,[]⟩
noncomputable def foliolaw18_awakeCode:Go.Code:=(Go.Proofs.Tryz.f13.body).getD .skip
def foliolaw18_awakeAnn:Lf.Ann:=(.seq .no (.seq .no (.seq (.seq (.join (.one .nrm ⟨[],[(1, .ref 1 [] 0)],[(21, .bool)],[(1,86,(.st xY197))],[]⟩) (.bop [1] .no)) .no) (.seq .no (.seq (.seq (.join (.one .nrm ⟨[],[(1, .ref 1 [] 0)],[(67, .bool)],[(1,86,(.st xY197))],[]⟩) .no) .no) (.seq .no (.seq (.join (.one .nrm ⟨[],[],[(0, .bool)],[],[]⟩) .no) .no)))))))
noncomputable def foliolaw18_awake  :Option (Bool):=
 ((Go.Fn.vm_New ([]:List xT32) ((128:Int)::((17:Int)::((144:Int)::((240:Int)::([]:List (Int)))))) ((97:UInt8)::((98:UInt8)::([]:List (UInt8)))) (0:Int) (20:Int))).bind fun r1=>
 ((r1.1).bind fun r2=>
  bif (!(decide ((r1.2:Int)≠(0:Int)))) then ((Go.Fn.vm_Machine__Step r2)).bind fun r3=>
  some ((decide ((r3.1:Int)≠(0:Int))),r3.2)
  else some (true,r2)).bind fun r4=>
 bif r4.1 then some false
 else ((Go.Fn.vm_Machine__Stack r4.2)).bind fun r5=>
 (bif (!(decide (((((List.length r5.1):Nat):Int):Int)≠(1:Int)))) then ((Lf.idx r5.1 (0:Int))).bind fun r6=>
  bif (!(decide ((r6.1:Int)≠(8:Int)))) then ((Lf.idx r5.1 (0:Int))).bind fun r7=>
  bif (!(decide ((r7.2.1:Int)≠(-(1:Int))))) then ((Lf.idx r5.1 (0:Int))).bind fun r8=>
  bif (!(decide ((r8.2.2.1.2.1:Int)≠(7:Int)))) then ((Go.Fn.vm_Machine__Lines r5.2)).bind fun r9=>
  bif (!(decide ((r9:Int)≠(0:Int)))) then (((Go.Fn.vm_run r5.2 (2:Int))).bind fun r10=>
   some r10).bind fun r11=>
  bif (!(decide ((r11.1:Int)≠(2:Int)))) then ((Go.Fn.vm_Machine__Lines r11.2)).bind fun r12=>
  bif (!(decide ((r12:Int)≠(1:Int)))) then ((Go.Fn.vm_Machine__Halted r11.2)).bind fun r13=>
  some (r13,r11.2)
  else some (true,r11.2)
  else some (true,r11.2)
  else some (true,r5.2)
  else some (true,r5.2)
  else some (true,r5.2)
  else some (true,r5.2)
  else some (true,r5.2)).bind fun r14=>
 bif r14.1 then some false
 else ((Go.Fn.vm_Machine__Line r14.2 (0:Int))).bind fun r15=>
 (bif (decide ((r15.2.1:Int)=(0:Int))) then bif (decide (((((List.length r15.1):Nat):Int):Int)=(2:Int))) then ((Lf.idx r15.1 (1:Int))).bind fun r16=>
  bif (decide ((r16.1:List (UInt8))=((98:UInt8)::([]:List (UInt8))))) then ((Go.Fn.vm_Machine__Step r15.2.2)).bind fun r17=>
  bif (decide ((r17.1:Int)=(0:Int))) then ((Go.Fn.vm_Machine__Halted r17.2)).bind fun r18=>
  bif r18 then ((Go.Fn.vm_Machine__Step r17.2)).bind fun r19=>
  some (decide ((r19.1:Int)=(180:Int)))
  else some false
  else some false
  else some false
  else some false
  else some false).bind fun r20=>
 some r20
theorem foliolaw18_awake_eq  :Lf.fnE foliolaw18_awakeCtx foliolaw18_awakeCode foliolaw18_awakeAnn [] [.bool] [.tmp 0] ()=foliolaw18_awake  :=by kernel_rfl
noncomputable def foliolaw18_awakeEnt:Nat×Lf.Entry:=(13,⟨[],[.bool],fun _=>foliolaw18_awake ⟩)
theorem foliolaw18_awake_ok:Lf.EntryOk Go.Proofs.Tryz.prog GG 13 foliolaw18_awakeEnt.2:=
 Lf.fn_ok (c:=foliolaw18_awakeCtx) (code:=foliolaw18_awakeCode) (an:=foliolaw18_awakeAnn) (slots:=[.tmp 0]) (fn:=Go.Proofs.Tryz.f13) (by kernel_rfl) ⟨Tys_ok,Lf.FnsOk.look (.con vm_New_ok (.con vm_Machine__Step_ok (.con vm_Machine__Line_ok (.con vm_Machine__Halted_ok (.con vm_Machine__Stack_ok (.con vm_Machine__Lines_ok (.con vm_Machine__Run_ok .nil))))))),Lf.IpsOk.look .nil,TysEq_ok,TysIm_ok,Lf.IvsOk.look .nil,Lf.FxsOk.look .nil⟩ (by kernel_rfl) (by kernel_rfl) (by kernel_rfl) (by kernel_rfl) (by kernel_rfl) (Nat.le_of_ble_eq_true rfl) (by simp [Lf.Ty.top]) (by simp [Lf.Ty.top]) fun z r h=>(foliolaw18_awake_eq ).trans h
end Go.Fn
/- The check's run, plainly: what passes is a walk from nothing to nothing. -/
namespace Go.Fn
open Go Go.Lf
def AOp (looks:Int) (s:List UInt8) (i:Ins) (s':List UInt8):Prop:=(i.2.2.1=2∨i.2.2.1=8→i.2.2.2.1<looks)∧(i.2.2.1=1→1≤i.2.2.2.1∧i.2.2.2.1≤s.length∧s'=s.drop i.2.2.2.1.toNat)∧(i.2.2.1≠1→s'=s)
inductive AW (looks:Int):List Int→List UInt8→List Ins→Prop where
 | halt {s:List UInt8} {i:Ins}:i.2.2.1=15→AW looks [] s [i]
 | step {ks ks':List Int} {s s':List UInt8} {i:Ins} {r:List Ins}:i.2.2.1≠15→KS i.2.2.1 ks ks'→AOp looks s i s'→AW looks ks' s' r→AW looks ks s (i::r)
theorem CI.congr {w w':Cw} (h:CI w) (h1:w'.1=w.1) (h2:w'.2.1=w.2.1) (h3:w'.2.2.1=w.2.2.1) (h4:w'.2.2.2.1=w.2.2.2.1):CI w':=by
 have hk:=wks_congr h1 h2
 exact ⟨by rw [h2];exact h.d0,by rw [h2];exact h.d32,by rw [h3,h4,hk];exact h.sh⟩
theorem operand_ok {w:Cw} {i:Ins} (hw:i.2.2.2.2.1.length≤100):Ok (check_walk__operand w i) fun r=>r.2=w∧(r.1=true→i.2.2.1=2∨i.2.2.1=8→i.2.2.2.1<w.2.2.2.2.2.2.2.1):=by
 unfold check_walk__operand
 refine Ok.bind (Q:=fun b:Bool×(Cw×Ins)=>b.2=(w,i)∧(b.1=false→ ¬ (i.2.2.1=2∨i.2.2.1=8))) (Ok.ifs (fun h=>Ok.some ⟨rfl,fun h'=>absurd h (of_decide_eq_false h')⟩) fun h=>Ok.some ⟨rfl,fun h'=>by have:=of_decide_eq_false h';omega⟩) fun b hb=>?_
 obtain ⟨c,b⟩:=b
 obtain ⟨rfl,hb⟩:=hb
 refine Ok.cond (fun _=>Ok.some ⟨rfl,fun h _=>of_decide_eq_true h⟩) fun hc=>?_
 have hno:=hb hc
 refine Ok.bind (Q:=fun b:Bool×(Cw×Ins)=>b.2=(w,i)) (Ok.ifs (fun _=>Ok.some rfl) fun _=>Ok.some rfl) fun b hb=>?_
 obtain ⟨c',b⟩:=b
 obtain rfl:=hb
 refine Ok.cond (fun _=>Ok.some ⟨rfl,fun _ h=>absurd h hno⟩) fun _=>Ok.ifs (fun _=>Ok.some ⟨rfl,fun _ h=>absurd h hno⟩) fun _=>Ok.ifs (fun _=>?_) fun _=>Ok.some ⟨rfl,fun _ h=>absurd h hno⟩
 refine Ok.bind (Q:=Nx (fun p:Cw×Ins=>p.1=w) (fun p:Bool×Cw=>p.2=w)) ?_ fun d hd=>?_
 ·refine Ok.range i.2.2.2.2.1 (by omega) (fun k (s:Cw×Ins)=>s=(w,i)) (fun k x s hx hs=>?_) (fun s hs=>?_) rfl
  ·subst hs
   have hlt:=at_len hx
   exact Ok.yes (by show (k:Int)<((i.2.2.2.2.1.length:Nat):Int);omega) (Ok.bind (Ok.idxE hx) fun _ _=>Ok.ifs (fun _=>Ok.inr rfl) fun _=>Ok.inl ⟨wrapS (by omega),rfl⟩)
  ·subst hs
   exact Ok.no (by show ¬ (((i.2.2.2.2.1.length:Nat):Int)<((i.2.2.2.2.1.length:Nat):Int));omega) (Ok.inr rfl)
 ·cases d with
  | inl p=>exact Ok.onL (Ok.some ⟨hd,fun _ h=>absurd h hno⟩)
  | inr p=>exact Ok.onR (Ok.some ⟨hd,fun _ h=>absurd h hno⟩)
theorem texts_ok {w:Cw} {i:Ins} (hs:w.2.2.2.2.2.2.1.length≤16384) (h1:i.2.2.1=1→1≤i.2.2.2.1):Ok (check_walk__texts w i) fun r=>r.1=true→(r.2.1=w.1∧r.2.2.1=w.2.1∧r.2.2.2.1=w.2.2.1∧r.2.2.2.2.1=w.2.2.2.1∧r.2.2.2.2.2.2.2.2=w.2.2.2.2.2.2.2)∧(i.2.2.1=1→1≤i.2.2.2.1∧i.2.2.2.1≤w.2.2.2.2.2.2.1.length∧r.2.2.2.2.2.2.2.1=w.2.2.2.2.2.2.1.drop i.2.2.2.1.toNat)∧(i.2.2.1≠1→r.2.2.2.2.2.2.2.1=w.2.2.2.2.2.2.1):=by
 unfold check_walk__texts
 refine Ok.ifs (fun h15=>Ok.some fun _=>⟨⟨rfl,rfl,rfl,rfl,rfl⟩,fun h=>by omega,fun _=>rfl⟩) fun _=>Ok.ifs (fun hk=>Ok.ifs (fun _=>Ok.some fun h=>(by cases h)) fun hle=>?_) fun hk=>Ok.some fun _=>⟨⟨rfl,rfl,rfl,rfl,rfl⟩,fun h=>absurd h hk,fun _=>rfl⟩
 have h1:=h1 hk
 refine Ok.bind (Ok.sub (Q:=fun t=>t.length≤16384) (by omega) (by omega) (by omega) (by rw [List.length_take,List.length_drop];omega)) fun t ht=>Ok.bind (plain_tot t (by omega)) fun b _=>?_
 refine Ok.bind (Ok.sub (Q:=fun t=>t=w.2.2.2.2.2.2.1.drop i.2.2.2.1.toNat) (by omega) (by omega) (by omega) ?_) fun t ht=>Ok.some fun _=>⟨⟨rfl,rfl,rfl,rfl,rfl⟩,fun _=>⟨h1,by omega,ht⟩,fun h=>absurd hk h⟩
 rw [List.take_of_length_le (by rw [List.length_drop];omega)]
set_option maxRecDepth 4000 in
theorem run_ok' (b:List Int) (s:List UInt8) (styles topics:Int):Ok (check_run b s styles topics) fun r=>r.2.2.2=0→ ∃ l at_,code_Instrs b=some (l,(at_,0))∧AW styles [] s l∧Instrs l∧s.length≤16384∧l.length≤65537:=by
 unfold check_run
 refine Ok.ifs (fun _=>Ok.some fun h=>(by cases h)) fun hs=>?_
 obtain ⟨⟨l,at_,e⟩,hI,hIn⟩:=instrs_ok b
 refine Ok.bind (Ok.of (Q:=((l,(at_,e))= ·)) hI rfl) fun r hr=>?_
 subst hr
 refine Ok.ifs (fun he=>Ok.some fun h=>absurd h he) fun he=>?_
 obtain rfl:e=0:=Decidable.not_not.1 he
 have hin:Instrs l:=hIn rfl
 dsimp only
 obtain ⟨⟨l',h,hl,hh,hl'⟩,hi,hlen⟩:=hin
 refine Ok.ifs (fun _=>Ok.some fun h=>(by cases h)) fun h64=>?_
 have h64: ¬ ((65536:Int)<IntKind.wrap .i64 (((l.length:Nat):Int) - 1)):=h64
 rw [wrap64 (by omega) (by omega)] at h64
 have hll:l.length=l'.length+1:=by rw [hl,List.length_append];rfl
 refine Ok.bind (Q:=Nx (fun _=>AW styles [] s l) (fun p:List Int×(Int×(Int×(Int×xT7)))=>p.2.2.1≠0)) ?_ fun d hd=>?_
 ·refine Ok.range l (by omega) (fun j (z:List Int×(Int×(Int×((Int×xT7)×Cw))))=>z.1.length=j∧CI z.2.2.2.2∧z.2.2.2.2.2.2.2.2.2.2.2.1=styles∧z.2.2.2.2.2.2.2.2.2.2.1.length≤16384∧(j<l.length→AW styles (wks z.2.2.2.2) z.2.2.2.2.2.2.2.2.2.2.1 (l.drop j)→AW styles [] s l)∧(j=l.length→AW styles [] s l)) (fun j i z hx hz=>?_) (fun z hz=>?_) ?_
  ·obtain ⟨hz1,hz2,hz3,hz4,hz5,_⟩:=hz
   obtain ⟨ds,za,ze,need,w⟩:=z
   dsimp only at hz1 hz2 hz3 hz4 hz5 ⊢
   have hlt:=at_len hx
   have hdrop:l.drop j=i::l.drop (j+1):=by
    rw [List.drop_eq_getElem_cons hlt,(List.getElem?_eq_some_iff.1 hx).2]
   have hii:=hi i (List.mem_of_getElem? hx)
   refine Ok.yes (by omega) (Ok.bind (Ok.idxE hx) fun y hy=>?_)
   subst hy
   refine Ok.bind (Ok.appE (by simp only [List.length_cons,List.length_nil];omega)) fun ds' hds=>?_
   refine Ok.bind (operand_ok (w:=w) hii.2) fun r5 hr5=>?_
   obtain ⟨c5,r5⟩:=r5
   obtain ⟨rfl,hop⟩:=hr5
   cases c5 with
   | false=>exact Ok.inr (show (161:Int)≠0 by decide)
   | true=>
    have hz4:r5.2.2.2.2.2.2.1.length≤16384:=hz4
    refine Ok.bind (place_ok hz2) fun r6 hr6=>?_
    obtain ⟨c6,r6⟩:=r6
    cases c6 with
    | false=>exact Ok.inr (show (170:Int)≠0 by decide)
    | true=>
     have hr6:=hr6 rfl
     have hst:r6.2.2.2.2.2.2=r5.2.2.2.2.2.2:=by
      rcases hr6 with ⟨h,_⟩ | h
      ·exact congrArg (fun w:Cw=>w.2.2.2.2.2.2) h
      ·exact h.2.1
     have hci:CI r6:=by
      rcases hr6 with ⟨h,_⟩ | h
      ·have h:r6=r5:=h
       rw [h];exact hz2
      ·exact h.1
     refine Ok.bind (texts_ok (w:=r6) (by rw [hst];exact hz4) hii.1) fun r7 hr7=>?_
     obtain ⟨c7,r7⟩:=r7
     cases c7 with
     | false=>exact Ok.inr (show (171:Int)≠0 by decide)
     | true=>
      obtain ⟨⟨t1,t2,t3,t4,t5⟩,t6,t7⟩:=hr7 rfl
      dsimp only at t1 t2 t3 t4 t5 t6 t7
      refine Ok.bind (Q:=fun q:List Int×((Int×xT7)×(Cw×Ins))=>q.1=ds'∧q.2.2=(r7,i)) ?_ fun q hq=>?_
      ·refine Ok.bind (Q:=fun q:Bool×(List Int×((Int×xT7)×(Cw×Ins)))=>q.2.1=ds'∧q.2.2.2=(r7,i)) (Ok.ifs (fun _=>Ok.some ⟨rfl,rfl⟩) fun _=>Ok.some ⟨rfl,rfl⟩) fun q hq=>?_
       exact Ok.cond (fun _=>Ok.some hq) fun _=>Ok.ifs (fun _=>Ok.some hq) fun _=>Ok.some hq
      ·obtain ⟨qa,qn,q⟩:=q
       obtain ⟨rfl,rfl⟩:=hq
       dsimp only
       have hci':CI r7:=hci.congr t1 t2 t3 t4
       have hwk:wks r7=wks r6:=wks_congr t1 t2
       have hs':r7.2.2.2.2.2.2.1.length≤16384:=by
        by_cases hk:i.2.2.1=1
        ·rw [(t6 hk).2.2,List.length_drop,hst];omega
        ·rw [t7 hk,hst];exact hz4
       have hop':AOp styles r5.2.2.2.2.2.2.1 i r7.2.2.2.2.2.2.1:=by
        refine ⟨fun h=>by rw [← hz3];exact hop rfl h,fun hk=>?_,fun hk=>?_⟩
        ·have:=t6 hk
         rw [hst] at this
         exact this
        ·rw [t7 hk,hst]
       refine Ok.inl ⟨wrapS (by omega),?_,hci'.congr rfl rfl rfl rfl,?_,hs',fun hj hA=>?_,fun hj=>?_⟩
       ·have hds:qa=ds++[_]:=hds
        show qa.length=j+1
        rw [hds,List.length_append,hz1];rfl
       ·show r7.2.2.2.2.2.2.2.1=styles
        rw [t5,hst];exact hz3
       ·have hA:AW styles (wks r7) r7.2.2.2.2.2.2.1 (l.drop (j+1)):=hA
        have hne:i.2.2.1≠15:=by
         refine hl' i ?_
         have hx':=hx
         rw [hl,List.getElem?_append_left (by omega)] at hx'
         exact List.mem_of_getElem? hx'
        refine hz5 (by omega) ?_
        rw [hdrop]
        rcases hr6 with ⟨_,h,_⟩ | h
        ·exact absurd h hne
        ·exact .step hne (by rw [hwk];exact h.2.2.2) hop' hA
       ·have hi15:i.2.2.1=15:=by
         have hx':=hx
         rw [hl,List.getElem?_append_right (by omega),show j - l'.length=0 by omega] at hx'
         injection hx' with hx'
         rw [← hx'];exact hh
        refine hz5 (by omega) ?_
        rw [hdrop,hj,List.drop_length]
        rcases hr6 with ⟨_,_,h⟩ | h
        ·have h:wks r5=[]:=h
         rw [h]
         exact .halt hi15
        ·exact absurd hi15 h.2.2.1
  ·obtain ⟨_,_,_,_,_,hz6⟩:=hz
   exact Ok.no (by show ¬ ((l.length:Int)<_);omega) (Ok.inr (hz6 rfl))
  ·refine ⟨rfl,⟨by show (0:Int)≤0;omega,by show (0:Int)≤32;omega, .inr ⟨by show (0:Int)≠1;decide,rfl,?_⟩⟩,rfl,by show s.length≤_;omega,fun _ h=>h,fun h=>by omega⟩
   exact ⟨by show (0:Nat)≤8;omega,fun k hk=>(by cases hk)⟩
 ·cases d with
  | inl p=>exact Ok.onL (Ok.some fun _=>⟨l,at_,hI,hd,⟨⟨l',h,hl,hh,hl'⟩,hi,hlen⟩,by omega,by omega⟩)
  | inr p=>exact Ok.onR (Ok.some fun h=>absurd h hd)
end Go.Fn
/- The machine's small steps, plainly. -/
namespace Go.Fn
open Go Go.Lf
abbrev MT:Type:=(Int)×(xT3×xT171)
abbrev Fr:Type:=Int×xT9
abbrev Lok:Type:=Int×(Int×Unit)
abbrev mLooks (m:MT):=m.2.1
abbrev mInstrs (m:MT):List Ins:=m.2.2.1
abbrev mText (m:MT):List UInt8:=m.2.2.2.1
abbrev mWidth (m:MT):Int:=m.2.2.2.2.1
abbrev mPc (m:MT):Int:=m.2.2.2.2.2.1
abbrev mSteps (m:MT):Int:=m.2.2.2.2.2.2.1
abbrev mHalted (m:MT):Bool:=m.2.2.2.2.2.2.2.1
abbrev mDeep (m:MT):Int:=m.2.2.2.2.2.2.2.2.2.1
abbrev mLists (m:MT):List (Int×(Int×Unit)):=m.2.2.2.2.2.2.2.2.2.2.1
abbrev mFlow (m:MT):List Gl:=m.2.2.2.2.2.2.2.2.2.2.2.1
abbrev mCells (m:MT):List (List Gl):=m.2.2.2.2.2.2.2.2.2.2.2.2.1
abbrev mMargin (m:MT):Int:=m.2.2.2.2.2.2.2.2.2.2.2.2.2.2.2.2.1
abbrev mMarker (m:MT):List UInt8:=m.2.2.2.2.2.2.2.2.2.2.2.2.2.2.2.2.2.1
abbrev mMarkerAt (m:MT):Int:=m.2.2.2.2.2.2.2.2.2.2.2.2.2.2.2.2.2.2.1
abbrev mLinks (m:MT):List (Int×(Int×Unit)):=m.2.2.2.2.2.2.2.2.2.2.2.2.2.2.2.2.2.2.2.2.2.1
abbrev mLines (m:MT):List (List Gl):=m.2.2.2.2.2.2.2.2.2.2.2.2.2.2.2.2.2.2.2.2.2.2.1
def mst (m:MT):List Fr:=arL xY38 32 m.2.2.2.2.2.2.2.2.1
theorem mst_len (m:MT):(mst m).length=32:=arL_len
abbrev wl (m:MT) (ls:List (List Gl)) (mo:Bool):MT:=u22 m (ls,(mo,m.2.2.2.2.2.2.2.2.2.2.2.2.2.2.2.2.2.2.2.2.2.2.2.2))
abbrev wm (m:MT) (mk:List UInt8):MT:=u17 m (mk,m.2.2.2.2.2.2.2.2.2.2.2.2.2.2.2.2.2.2)
abbrev wf (m:MT) (fl:List Gl):MT:=u11 m (fl,m.2.2.2.2.2.2.2.2.2.2.2.2)
def LnOk (ls:List (List Gl)):Prop:=ls.length≤2000∧ ∀ x∈ls,x.length≤5000
theorem tell_ok {m:MT} {line:List Gl} (h:LnOk (mLines m)) (hl:line.length≤5000):Ok (vm_Machine__tell m line) fun m'=> ∃ ls mo,m'=wl m ls mo∧LnOk ls:=by
 unfold vm_Machine__tell
 refine Ok.ifs (fun _=>Ok.some ⟨_,true,rfl,h⟩) fun hlt=>?_
 have hlt: ¬ ((2000:Int)≤((mLines m).length:Int)):=hlt
 refine Ok.bind (Ok.appE (by show ((mLines m).length+_)*_≤_;simp only [List.length_cons,List.length_nil];omega)) fun ls hls=>Ok.some ⟨ls,_,rfl,?_,fun x hx=>?_⟩
 ·rw [hls,List.length_append];show (mLines m).length+1≤_;omega
 ·rw [hls] at hx
  rcases List.mem_append.1 hx with hx | hx
  ·exact h.2 x hx
  ·rw [List.mem_singleton.1 hx];exact hl
theorem vplain_ok:Ok vm_plain fun _=>True:=⟨_,rfl,trivial⟩
theorem pad_ok {line:List Gl} {to:Int} (hg: ∀ g∈line,GW g) (hl:line.length≤100000) (ht:to≤1000):Ok (vm_pad line to) fun r=>r.length≤line.length+1000∧ ∀ g∈r,GW g:=by
 unfold vm_pad
 have hb:=sumW_bd line hg
 refine Ok.bind (wide_ok (by omega) hg) fun n hn=>Ok.ends ?_
 subst hn
 refine Ok.loop (fun k (z:Int×List Gl)=>(k=(to - z.1).toNat∧0≤z.1∧z.1≤1000000)∧(z.2.length+k≤line.length+1000)∧ ∀ g∈z.2,GW g) (fun k z hz=>?_) (to - sumW line).toNat _ (by omega) ⟨⟨rfl,by show 0≤sumW line;omega,by show sumW line≤_;omega⟩,by show line.length+_≤_;omega,hg⟩
 obtain ⟨n,l⟩:=z
 obtain ⟨⟨hz1,hz2,hz3⟩,hz4,hz5⟩:=hz
 dsimp only at hz1 hz2 hz3 hz4 hz5 ⊢
 refine Ok.ifs (fun hlt=>Ok.bind vplain_ok fun p _=>?_) fun _=>Ok.inr ⟨by omega,hz5⟩
 have e:IntKind.wrap .i64 (n+1)=n+1:=wrap64 (by omega) (by omega)
 refine Ok.bind (Ok.appE (by simp only [List.length_cons,List.length_nil];omega)) fun l' hl'=>Ok.inl ⟨k - 1,by omega,⟨?_,?_,?_⟩,?_,?_⟩
 ·show k - 1=(to - IntKind.wrap .i64 (n+1)).toNat
  rw [e];omega
 ·show 0≤IntKind.wrap .i64 (n+1)
  rw [e];omega
 ·show IntKind.wrap .i64 (n+1)≤_
  rw [e];omega
 ·show l'.length+_≤_
  rw [hl',List.length_append];simp only [List.length_cons,List.length_nil];omega
 ·show ∀ g∈l',GW g
  rw [hl']
  intro g hg
  rcases List.mem_append.1 hg with hg | hg
  ·exact hz5 g hg
  ·rw [List.mem_singleton.1 hg];unfold GW;simp
theorem marked_ok {m:MT} (h1:(mMarker m).length≤196) (h2:mMarkerAt m≤196):Ok (vm_Machine__marked m) fun r=>r.2=wm m []∧r.1.length≤2000∧ ∀ g∈r.1,GW g:=by
 unfold vm_Machine__marked
 refine Ok.bind (pad_ok (line:=[]) (by simp) (by simp) (by show mMarkerAt m≤1000;omega)) fun l hl=>?_
 have hl1:l.length≤1000:=by have:=hl.1;simp only [List.length_nil] at this;omega
 refine Ok.bind (Q:=fun r:List Gl×MT=>r.2=m∧r.1.length≤2000∧ ∀ g∈r.1,GW g) ?_ fun r hr=>Ok.some ?_
 ·refine Ok.loop (fun k (z:List Gl×((List UInt8×Int)×MT))=> ∃ p:Nat,z.2=((mMarker m,(p:Int)),m)∧p+k=(mMarker m).length∧z.1.length≤1000+p∧ ∀ g∈z.1,GW g) (fun k z hz=>?_) (mMarker m).length _ (by omega) ⟨0,rfl,by omega,by omega,hl.2⟩
  obtain ⟨l,z⟩:=z
  obtain ⟨p,rfl,hp,hl,hg⟩:=hz
  dsimp only at hl hg ⊢
  refine Ok.ifs (fun hlt=>Ok.bind vplain_ok fun c _=>?_) fun _=>Ok.inr ⟨rfl,by show l.length≤_;omega,hg⟩
  obtain ⟨w,hw,hw1,hw2⟩:=runeW_ok (mMarker m) p (by omega)
  refine Ok.bind (Ok.appE (by simp only [List.length_cons,List.length_nil];omega)) fun l' hl'=>Ok.inl ⟨k - w,by omega,p+w,?_,by omega,?_,?_⟩
  ·show ((mMarker m,(p:Int)+runeW (mMarker m) (p:Int)),m)=_
   rw [hw];rfl
  ·show l'.length≤_
   rw [hl',List.length_append];simp only [List.length_cons,List.length_nil];omega
  ·show ∀ g∈l',GW g
   rw [hl']
   intro g hg'
   rcases List.mem_append.1 hg' with hg' | hg'
   ·exact hg g hg'
   ·rw [List.mem_singleton.1 hg'];unfold GW;simp
 ·obtain ⟨r1,r2⟩:=r
  obtain ⟨rfl,hr⟩:=hr
  exact ⟨rfl,hr⟩
theorem settle_ok {m:MT} (h:LnOk (mLines m)) (h1:(mMarker m).length≤196) (h2:mMarkerAt m≤196):Ok (vm_Machine__settle m) fun m'=> ∃ mk ls mo,m'=wl (wm m mk) ls mo∧LnOk ls∧mk.length≤196:=by
 unfold vm_Machine__settle
 refine Ok.ifs (fun _=>?_) fun _=>Ok.some ⟨_,_,_,rfl,h,h1⟩
 refine Ok.bind (marked_ok h1 h2) fun r hr=>?_
 obtain ⟨r1,r2⟩:=r
 obtain ⟨rfl,hr,_⟩:=hr
 refine Ok.ends ((tell_ok (m:=wm m []) h (by show r1.length≤_;have:r1.length≤2000:=hr;omega)).imp fun m' hm'=>?_)
 obtain ⟨ls,mo,rfl,hls⟩:=hm'
 exact ⟨[],ls,mo,rfl,hls,by simp⟩
theorem mtop_ok {m:MT} (h0:0≤mDeep m) (h1:mDeep m≤32):Ok (vm_Machine__top m) fun _=>True:=by
 unfold vm_Machine__top
 have e:IntKind.wrap .i64 (mDeep m - 1)=mDeep m - 1:=wrap64 (by omega) (by omega)
 refine Ok.bind (Q:=fun _=>True) ?_ fun _ _=>Ok.onSum (fun _ _=>Ok.ends vplain_ok) fun _ _=>Ok.some trivial
 refine Ok.loop (fun k (z:Int×Lok)=>k=(z.1+1).toNat∧ -1≤z.1∧z.1<32) (fun k z hz=>?_) (mDeep m).toNat _ (by omega) ⟨by show _=(IntKind.wrap .i64 (mDeep m - 1)+1).toNat;rw [e];omega,by show -1≤IntKind.wrap .i64 (mDeep m - 1);rw [e];omega,by show IntKind.wrap .i64 (mDeep m - 1)<32;rw [e];omega⟩
 obtain ⟨n,z⟩:=z
 obtain ⟨hz1,hz2,hz3⟩:=hz
 dsimp only at hz1 hz2 hz3 ⊢
 refine Ok.ifs (fun hn=>?_) fun _=>Ok.inr trivial
 have hl:=mst_len m
 have hi: ∀ {Q:Fr→Prop},(∀ y,Q y)→Ok (idx (mst m) n) Q:=fun hq=>Ok.at_ hn (by omega) (hq _)
 refine Ok.bind (hi (Q:=fun _=>True) fun _=>trivial) fun f _=>Ok.bind (Q:=fun q:Bool×Lok=>True) ?_ fun q _=>Ok.cond (fun _=>Ok.bind (hi (Q:=fun _=>True) fun _=>trivial) fun _ _=>Ok.inr trivial) fun _=>Ok.inl ⟨k - 1,by omega,?_,?_,?_⟩
 ·repeat' first | exact Ok.some trivial | refine Ok.cond (fun _=>?_) (fun _=>?_)
 ·show k - 1=(IntKind.wrap .i64 (n - 1)+1).toNat
  rw [wrap64 (by omega) (by omega)];omega
 ·show -1≤IntKind.wrap .i64 (n - 1)
  rw [wrap64 (by omega) (by omega)];omega
 ·show IntKind.wrap .i64 (n - 1)<32
  rw [wrap64 (by omega) (by omega)];omega
theorem apply_ok (l:Lok) (c:Chg):Ok (style_Apply l c) fun _=>True:=by
 unfold style_Apply
 exact Ok.bind (Q:=fun _=>True) (Ok.ifs (fun _=>Ok.some trivial) fun _=>Ok.some trivial) fun _ _=>Ok.some trivial
theorem styled_ok {m:MT} {l:Lok} {n:Int} (h:n<(mLooks m).length):Ok (vm_Machine__styled m l n) fun _=>True:=by
 unfold vm_Machine__styled
 exact Ok.ifs (fun _=>Ok.some trivial) fun hn=>Ok.bind (Ok.at_ (Q:=fun _=>True) (by omega) (by show n.toNat<(mLooks m).length;omega) trivial) fun c _=>Ok.ends (apply_ok l c)
abbrev wp (m:MT) (f:Fr):MT:=u8 m (arS xY38 32 m.2.2.2.2.2.2.2.2.1 (mDeep m).toNat f,(mDeep m+1,m.2.2.2.2.2.2.2.2.2.2))
abbrev wo (m:MT):MT:=u8 m (arS xY38 32 m.2.2.2.2.2.2.2.2.1 ((mDeep m).toNat - 1) (0,(0,((0,(0,())),()))),(mDeep m - 1,m.2.2.2.2.2.2.2.2.2.2))
theorem push_ok {m:MT} {k n:Int} {l:Lok} (h0:0≤mDeep m) (h1:mDeep m<32):Ok (vm_Machine__push m k n l) (· =wp m (k,(n,(l,())))):=by
 unfold vm_Machine__push
 have e:IntKind.wrap .i64 (mDeep m+1)=mDeep m+1:=wrap64 (by omega) (by omega)
 refine Ok.bind (Ok.chk (Q:=((mDeep m).toNat= ·)) h0 h1 rfl) fun j hj=>?_
 subst hj
 refine Ok.bind (Ok.nth (l:=mst m) (Q:=fun _=>True) (by rw [mst_len];omega) trivial) fun _ _=>Ok.some ?_
 rw [e]
theorem pop_ok {m:MT} (h0:0<mDeep m) (h1:mDeep m≤32):Ok (vm_Machine__pop m) fun r=>r.2=wo m∧ ∀ hj:(mDeep m).toNat - 1<(mst m).length,r.1=(mst m)[(mDeep m).toNat - 1]:=by
 unfold vm_Machine__pop
 have e:IntKind.wrap .i64 (mDeep m - 1)=mDeep m - 1:=wrap64 (by omega) (by omega)
 have hl:=mst_len m
 refine Ok.bind (Ok.chk (Q:=(· =(mDeep m).toNat - 1)) (by rw [e];omega) (by rw [e];omega) (by rw [e];omega)) fun j hj=>?_
 subst hj
 refine Ok.bind (Ok.nth (l:=mst m) (Q:=fun f=> ∀ hj:(mDeep m).toNat - 1<(mst m).length,f=(mst m)[(mDeep m).toNat - 1]) (by omega) fun _=>rfl) fun f hf=>?_
 refine Ok.bind (Ok.chk (Q:=(· =(mDeep m).toNat - 1)) (by rw [e];omega) (by rw [e];omega) (by rw [e];omega)) fun j hj=>?_
 subst hj
 refine Ok.bind (Ok.nth (l:=mst m) (Q:=fun _=>True) (by omega) trivial) fun _ _=>Ok.some ⟨?_,hf⟩
 rw [e]
end Go.Fn
/- The machine's paragraphs, rows and markers, plainly. -/
namespace Go.Fn
open Go Go.Lf
abbrev mInRow (m:MT):Bool:=m.2.2.2.2.2.2.2.2.2.2.2.2.2.2.2.1
abbrev W (m:MT) (fl:List Gl) (ce:List (List Gl)) (ir:Bool) (mg:Int) (mk:List UInt8) (ma:Int) (ls:List (List Gl)) (mo:Bool):MT:=u11 m (fl,(ce,(m.2.2.2.2.2.2.2.2.2.2.2.2.2.1,(m.2.2.2.2.2.2.2.2.2.2.2.2.2.2.1,(ir,(mg,(mk,(ma,(m.2.2.2.2.2.2.2.2.2.2.2.2.2.2.2.2.2.2.2.1,(m.2.2.2.2.2.2.2.2.2.2.2.2.2.2.2.2.2.2.2.2.1,(m.2.2.2.2.2.2.2.2.2.2.2.2.2.2.2.2.2.2.2.2.2.1,(ls,(mo,m.2.2.2.2.2.2.2.2.2.2.2.2.2.2.2.2.2.2.2.2.2.2.2.2)))))))))))))
theorem W_eq (m:MT):m=W m (mFlow m) (mCells m) (mInRow m) (mMargin m) (mMarker m) (mMarkerAt m) (mLines m) m.2.2.2.2.2.2.2.2.2.2.2.2.2.2.2.2.2.2.2.2.2.2.2.1:=rfl
theorem W_lines (m:MT) (fl ce ir mg mk ma ls mo) (ls':List (List Gl)) (mo':Bool):wl (W m fl ce ir mg mk ma ls mo) ls' mo'=W m fl ce ir mg mk ma ls' mo':=rfl
theorem W_marker (m:MT) (fl ce ir mg mk ma ls mo) (mk':List UInt8):wm (W m fl ce ir mg mk ma ls mo) mk'=W m fl ce ir mg mk' ma ls mo:=rfl
theorem wf_W (m:MT) (fl:List Gl):wf m fl=W m fl (mCells m) (mInRow m) (mMargin m) (mMarker m) (mMarkerAt m) (mLines m) m.2.2.2.2.2.2.2.2.2.2.2.2.2.2.2.2.2.2.2.2.2.2.2.1:=rfl
theorem mend_ok {m:MT} (h:LnOk (mLines m)) (h1:(mMarker m).length≤196) (h2:mMarkerAt m≤196) (h3:mMargin m≤196) (h4:(mFlow m).length≤100000000) (h5:(mCells m).length≤1000000):Ok (vm_Machine__end m) fun m'=> ∃ c mk ls mo,m'=W m [] c (mInRow m) (mMargin m) mk (mMarkerAt m) ls mo∧LnOk ls∧mk.length≤196∧(c=mCells m∨c=mCells m++[mFlow m]):=by
 unfold vm_Machine__end
 refine Ok.cond (fun _=>?_) fun _=>?_
 ·refine Ok.bind (Ok.appE (by show ((mCells m).length+_)*_≤_;simp only [List.length_cons,List.length_nil];omega)) fun c hc=>Ok.some ⟨c,mMarker m,mLines m,_,rfl,h,h1, .inr hc⟩
 ·refine Ok.bind (fill_ok h4) fun r2 hr2=>?_
  have hr21:r2.1.length≤3*(mFlow m).length+2:=hr2.1
  refine Ok.bind (Q:=fun m':MT=> ∃ mk ls mo,m'=W m [] (mCells m) (mInRow m) (mMargin m) mk (mMarkerAt m) ls mo∧LnOk ls∧mk.length≤196) ?_ fun r4 hr4=>Ok.ends ?_
  ·refine Ok.ifs (fun _=>Ok.ends ((settle_ok (m:=wf m []) h h1 h2).imp fun m' hm'=>?_)) fun _=>Ok.some ⟨mMarker m,mLines m,_,wf_W m [],h,h1⟩
   obtain ⟨mk,ls,mo,rfl,hls⟩:=hm'
   exact ⟨mk,ls,mo,by rw [wf_W,W_marker,W_lines],hls⟩
  ·refine Ok.range r2.1 (by omega) (fun _ (m':MT)=> ∃ mk ls mo,m'=W m [] (mCells m) (mInRow m) (mMargin m) mk (mMarkerAt m) ls mo∧LnOk ls∧mk.length≤196) (fun i x m' hx hm'=>?_) (fun m' hm'=>?_) hr4
   ·have hlt:=lt_len hx
    obtain ⟨mk,ls,mo,rfl,hls,hmk⟩:=hm'
    refine Ok.yes (by show (i:Int)<_;omega) (Ok.bind (Ok.idxE hx) fun y hy=>?_)
    subst hy
    have hxl:=hr2.2 x (mem_at hx)
    have hx200:=hxl.1.len
    have hw200:=hxl.2.2
    refine Ok.bind (Q:=fun r8:List Gl×MT=>(∃ mk',r8.2=W m [] (mCells m) (mInRow m) (mMargin m) mk' (mMarkerAt m) ls mo∧mk'.length≤196)∧r8.1.length≤2000∧ ∀ g∈r8.1,GW g) ?_ fun r8 hr8=>?_
    ·refine Ok.ifs (fun _=>Ok.ends ((marked_ok (m:=W m [] (mCells m) (mInRow m) (mMargin m) mk (mMarkerAt m) ls mo) hmk h2).imp fun r hr=>⟨⟨[],by rw [hr.1,W_marker],by simp⟩,hr.2⟩)) fun _=>Ok.some ⟨⟨mk,rfl,hmk⟩,by simp,by simp⟩
    ·obtain ⟨l8,m8⟩:=r8
     obtain ⟨⟨mk',rfl,hmk'⟩,hl8,hg8⟩:=hr8
     refine Ok.bind (pad_ok hg8 (by show l8.length≤_;have:l8.length≤2000:=hl8;omega) (by show mMargin m≤1000;omega)) fun r9 hr9=>?_
     have hr9:r9.length≤l8.length+1000:=hr9.1
     have hl8:l8.length≤2000:=hl8
     refine Ok.bind (Ok.appE (by omega)) fun r10 hr10=>?_
     refine Ok.bind (tell_ok (m:=W m [] (mCells m) (mInRow m) (mMargin m) mk' (mMarkerAt m) ls mo) (line:=r10) hls (by rw [hr10,List.length_append];omega)) fun m2 hm2=>?_
     obtain ⟨ls2,mo2,rfl,hls2⟩:=hm2
     exact Ok.inl ⟨wrapS (by omega),mk',ls2,mo2,W_lines _ _ _ _ _ _ _ _ _ _ _,hls2,hmk'⟩
   ·obtain ⟨mk,ls,mo,rfl,hls,hmk⟩:=hm'
    exact Ok.no (by show ¬ ((r2.1.length:Int)<_);omega) (Ok.inr ⟨mCells m,mk,ls,mo,rfl,hls,hmk, .inl rfl⟩)
theorem mrow_ok {m:MT} (h:LnOk (mLines m)) (h1: ∀ c∈mCells m,c.length≤100000):Ok (vm_Machine__row m) fun m'=> ∃ c ir ls mo,m'=W m (mFlow m) c ir (mMargin m) (mMarker m) (mMarkerAt m) ls mo∧LnOk ls∧(c=mCells m∨c=[]):=by
 unfold vm_Machine__row
 refine Ok.cond (fun _=>Ok.some ⟨mCells m,_,mLines m,_,W_eq m,h, .inl rfl⟩) fun _=>?_
 refine Ok.bind (row_ok (B:=100000) (by omega) h1) fun r1 hr1=>?_
 refine Ok.bind (Q:=fun m':MT=> ∃ ls mo,m'=wl m ls mo∧LnOk ls) ?_ fun m' hm'=>Ok.some ?_
 ·refine Ok.range r1.1 (by have:=hr1.1;omega) (fun _ (m':MT)=> ∃ ls mo,m'=wl m ls mo∧LnOk ls) (fun i x m' hx hm'=>?_) (fun m' hm'=>?_) ⟨mLines m,_,rfl,h⟩
  ·have hlt:=lt_len hx
   obtain ⟨ls,mo,rfl,hls⟩:=hm'
   refine Ok.yes (by show (i:Int)<_;omega) (Ok.bind (Ok.idxE hx) fun y hy=>?_)
   subst hy
   have hxl:=(hr1.2 x (mem_at hx)).len
   refine Ok.bind (tell_ok (m:=wl m ls mo) hls (by omega)) fun m2 hm2=>?_
   obtain ⟨ls2,mo2,rfl,hls2⟩:=hm2
   exact Ok.inl ⟨wrapS (by omega),ls2,mo2,rfl,hls2⟩
  ·exact Ok.no (by show ¬ ((r1.1.length:Int)<_);omega) (Ok.inr hm')
 ·obtain ⟨ls,mo,rfl,hls⟩:=hm'
  exact ⟨[],false,ls,mo,rfl,hls, .inr rfl⟩
theorem wrap_bd (x:Int): -9223372036854775808≤IntKind.wrap .i64 x∧IntKind.wrap .i64 x≤9223372036854775807:=by
 simp only [IntKind.wrap]
 simp [IntKind.bits,IntKind.signed]
 omega
abbrev wk (m:MT) (st:(arT xY38 32).den) (mg:Int) (mk:List UInt8) (ma:Int):MT:=u8 m (st,(m.2.2.2.2.2.2.2.2.2.1,(m.2.2.2.2.2.2.2.2.2.2.1,(m.2.2.2.2.2.2.2.2.2.2.2.1,(m.2.2.2.2.2.2.2.2.2.2.2.2.1,(m.2.2.2.2.2.2.2.2.2.2.2.2.2.1,(m.2.2.2.2.2.2.2.2.2.2.2.2.2.2.1,(m.2.2.2.2.2.2.2.2.2.2.2.2.2.2.2.1,(mg,(mk,(ma,m.2.2.2.2.2.2.2.2.2.2.2.2.2.2.2.2.2.2.2)))))))))))
theorem mark_num {s:List UInt8} {p w:Int} (hs:s.length≤100) (hp:0≤p∧p≤196) (hw:10≤w∧w≤200):min (IntKind.wrap .i64 (IntKind.wrap .i64 (p+((s.length:Nat):Int))+1)) (IntKind.wrap .i64 (w - 4))=min (p+s.length+1) (w - 4):=by
 rw [wrap64 (x:=p+((s.length:Nat):Int)) (by omega) (by omega),wrap64 (x:=p+((s.length:Nat):Int)+1) (by omega) (by omega),wrap64 (x:=w - 4) (by omega) (by omega)]
theorem mark_sub {s:List UInt8} {p w:Int} {Q:List UInt8→Prop} (hs:s.length≤100) (hp:0≤p∧p≤196) (hw:10≤w∧w≤200) (hq: ∀ t:List UInt8,t.length≤196→(t.length:Int)≤min (p+s.length+1) (w - 4)→Q t):Ok (sub s (IntKind.wrap .i64 (((s.length:Nat):Int) - min ((s.length:Nat):Int) (min (IntKind.wrap .i64 (IntKind.wrap .i64 (p+((s.length:Nat):Int))+1)) (IntKind.wrap .i64 (w - 4))))) ((s.length:Nat):Int)) Q:=by
 rw [mark_num hs hp hw,wrap64 (by omega) (by omega)]
 refine Ok.sub (by omega) (by omega) (by omega) (hq _ ?_ ?_)
 ·rw [List.length_take,List.length_drop];omega
 ·rw [List.length_take,List.length_drop];omega
theorem mmark_ok {m:MT} (h1:mLists m≠[]) (h2: ∀ p∈mLists m,0≤p.1∧p.1≤196) (hl:(mLists m).length≤1000) (h0:0<mDeep m) (h32:mDeep m≤32) (hw:10≤mWidth m∧mWidth m≤200):Ok (vm_Machine__mark m) fun m'=> ∃ st mg mk ma,m'=wk m st mg mk ma∧(0≤mg∧mg≤196)∧mk.length≤196∧ma≤196∧ ∀ d,kso (arL xY38 32 st:List Fr) d=kso (mst m) d:=by
 unfold vm_Machine__mark
 have hpos:0<(mLists m).length:=List.length_pos_iff.2 h1
 have e1:IntKind.wrap .i64 (((mLists m).length:Int) - 1)=(mLists m).length - 1:=wrap64 (by omega) (by omega)
 have e2:IntKind.wrap .i64 (mDeep m - 1)=mDeep m - 1:=wrap64 (by omega) (by omega)
 have hml:=mst_len m
 have hd:(mDeep m).toNat - 1<(mst m).length:=by omega
 refine Ok.bind (Ok.chk (Q:=fun j=>j<(mLists m).length) (by rw [e1];omega) (by rw [e1];show _<((mLists m).length:Int);omega) (by rw [e1];omega)) fun r1 hr1=>?_
 refine Ok.bind (Ok.chk (Q:=(· =(mDeep m).toNat - 1)) (by rw [e2];omega) (by rw [e2];omega) (by rw [e2];omega)) fun r2 hr2=>?_
 subst hr2
 refine Ok.bind (Ok.nth (l:=mst m) (Q:=fun _=>True) hd trivial) fun r3 _=>?_
 refine Ok.bind (Ok.nth (l:=mst m) (Q:=fun f=>f=(mst m)[(mDeep m).toNat - 1]) hd rfl) fun r4 hr4=>?_
 have hset: ∀ (f:Fr) d,f.1=r4.1→kso (arL xY38 32 (arS xY38 32 m.2.2.2.2.2.2.2.2.1 ((mDeep m).toNat - 1) f):List Fr) d=kso (mst m) d:=fun f d hf=>by
  refine (congrArg (fun l:List Fr=>kso l d) arL_arS).trans ?_
  exact kso_keep hd (by rw [hf,hr4];rfl)
 have hln: ∀ {Q:Int×(Int×Unit)→Prop},(∀ p,0≤p.1∧p.1≤196→Q p)→Ok (nth (mLists m) r1) Q:=fun hq=>Ok.nth hr1 (hq _ (h2 _ (List.getElem_mem hr1)))
 have hma: ∀ {p x:Int},p≤196→min p x≤196:=fun h=>by omega
 refine Ok.bind (hln (Q:=fun _=>True) fun _ _=>trivial) fun r5 _=>Ok.ifs (fun _=>?_) fun _=>?_
 ·refine Ok.bind (Q:=fun f:Fr=> -9223372036854775808≤f.2.1∧f.2.1≤9223372036854775807) ⟨(r4.1,(IntKind.wrap .i64 (r3.2.1+1),r4.2.2)),?_,wrap_bd _⟩ fun r6 hr6=>?_
  ·unfold nth
   refine (congrArg (fun l:List Fr=>l[(mDeep m).toNat - 1]?) arL_arS).trans ?_
   exact List.getElem?_set_self hd
  refine Ok.bind (Q:=fun t=>t.length≤21) ⟨Lib.itoa r6.2.1,by unfold strconv_Itoa;rw [if_pos hr6],Lib.itoa_length_le _ hr6.1 hr6.2⟩ fun r7 hr7=>?_
  refine Ok.bind (Ok.cat (Q:=fun t=>t.length≤100) (by simp only [List.length_cons,List.length_nil];omega) (by rw [List.length_append];simp only [List.length_cons,List.length_nil];omega)) fun r8 hr8=>?_
  refine Ok.bind (hln (Q:=fun p=>0≤p.1∧p.1≤196) fun _ h=>h) fun r9 hr9=>?_
  refine Ok.bind (mark_sub (Q:=fun t=>t.length≤196) hr8 hr9 hw fun t ht _=>ht) fun r10 hr10=>?_
  refine Ok.bind (hln (Q:=fun p=>0≤p.1∧p.1≤196) fun _ h=>h) fun r11 hr11=>Ok.some ⟨_,_,_,_,rfl,?_,hr10,hma hr11.2,fun d=>hset _ d rfl⟩
  rw [mark_num hr8 hr9 hw]
  omega
 ·refine Ok.bind (hln (Q:=fun p=>0≤p.1∧p.1≤196) fun _ h=>h) fun r9 hr9=>?_
  refine Ok.bind (mark_sub (s:=[42]) (Q:=fun t=>t.length≤196) (by simp) hr9 hw fun t ht _=>ht) fun r10 hr10=>?_
  refine Ok.bind (hln (Q:=fun p=>0≤p.1∧p.1≤196) fun _ h=>h) fun r11 hr11=>Ok.some ⟨_,_,_,_,rfl,?_,hr10,hma hr11.2,fun d=>hset _ d rfl⟩
  have:=mark_num (s:=[42]) (by simp) hr9 hw
  rw [this]
  simp only [List.length_cons,List.length_nil]
  omega
theorem glyphs_ok {m:MT} {s:List UInt8} (h0:0≤mDeep m) (h32:mDeep m≤32) (hs:s.length≤100000) (hf:(mFlow m).length≤1000000):Ok (vm_Machine__glyphs m s) fun m'=> ∃ fl,m'=wf m fl∧fl.length≤(mFlow m).length+s.length:=by
 unfold vm_Machine__glyphs
 refine Ok.bind (cells_ok s (by omega)) fun r1 hr1=>Ok.ends ?_
 refine Ok.range r1 (by omega) (fun i (m':MT)=> ∃ fl,m'=wf m fl∧fl.length=(mFlow m).length+i) (fun i x m' hx hm'=>?_) (fun m' hm'=>?_) ⟨mFlow m,rfl,by omega⟩
 ·have hlt:=lt_len hx
  obtain ⟨fl,rfl,hfl⟩:=hm'
  refine Ok.yes (by show (i:Int)<_;omega) (Ok.bind (Ok.idxE hx) fun y _=>Ok.bind (mtop_ok (m:=wf m fl) h0 h32) fun t _=>?_)
  refine Ok.bind (Ok.appE (by show (fl.length+_)*_≤_;simp only [List.length_cons,List.length_nil];omega)) fun fl' hfl'=>Ok.inl ⟨wrapS (by omega),fl',rfl,?_⟩
  rw [hfl',List.length_append]
  show fl.length+1=_
  omega
 ·obtain ⟨fl,rfl,hfl⟩:=hm'
  exact Ok.no (by show ¬ ((r1.length:Int)<_);omega) (Ok.inr ⟨fl,rfl,by omega⟩)
end Go.Fn
/- One step of the machine, plainly. -/
namespace Go.Fn
open Go Go.Lf
structure MI (l:List Ins) (ks:List Int) (n:Nat) (m:MT):Prop where
 made:m.1=1
 ins:mInstrs m=l
 wd:10≤mWidth m∧mWidth m≤200
 d0:0≤mDeep m∧mDeep m≤32
 st:kso (mst m) (mDeep m).toNat=ks
 lp: ∀ p∈mLists m,0≤p.1∧p.1≤196
 fl:(mFlow m).length+(mText m).length≤16384+n
 ce:(mCells m).length≤n
 cl: ∀ c∈mCells m,c.length≤100000
 mg:0≤mMargin m∧mMargin m≤196
 mr:(mMarker m).length≤196
 ma:mMarkerAt m≤196
 lk:(mLinks m).length≤n
 ln:LnOk (mLines m)
def LI (ks:List Int) (m:MT):Prop:=(mLists m).length=ks.count 10
def Fix (m m':MT):Prop:=mLooks m'=mLooks m∧mPc m'=mPc m∧mSteps m'=mSteps m∧mHalted m'=mHalted m
theorem Fix.rfl' {m:MT}:Fix m m:=⟨rfl,rfl,rfl,rfl⟩
theorem Fix.trans {a b c:MT} (h:Fix a b) (h':Fix b c):Fix a c:=⟨h'.1.trans h.1,h'.2.1.trans h.2.1,h'.2.2.1.trans h.2.2.1,h'.2.2.2.trans h.2.2.2⟩
theorem MI.mono {l:List Ins} {ks:List Int} {n n':Nat} {m:MT} (h:MI l ks n m) (hn:n≤n'):MI l ks n' m:={ h with fl:=by have:=h.fl;omega,ce:=by have:=h.ce;omega,lk:=by have:=h.lk;omega }
theorem MI.len {l:List Ins} {ks:List Int} {n:Nat} {m:MT} (h:MI l ks n m):(ks.length:Int)=mDeep m:=by
 have h1:=h.d0
 have h2:=h.st
 rw [← h2,kso_len (by rw [mst_len];omega)]
 omega
theorem MI.W {l:List Ins} {ks:List Int} {n:Nat} {m:MT} (h:MI l ks n m) {fl:List Gl} {ce:List (List Gl)} {ir:Bool} {mg:Int} {mk:List UInt8} {ma:Int} {ls:List (List Gl)} {mo:Bool} (h1:fl.length+(mText m).length≤16384+n) (h2:ce.length≤n) (h3: ∀ c∈ce,c.length≤100000) (h4:0≤mg∧mg≤196) (h5:mk.length≤196) (h6:ma≤196) (h7:LnOk ls):MI l ks n (W m fl ce ir mg mk ma ls mo):=
 { made:=h.made,ins:=h.ins,wd:=h.wd,d0:=h.d0,st:=h.st,lp:=h.lp,fl:=h1,ce:=h2,cl:=h3,mg:=h4,mr:=h5,ma:=h6,lk:=h.lk,ln:=h7 }
theorem MI.wp {l:List Ins} {ks:List Int} {n:Nat} {m:MT} (h:MI l ks n m) {f:Fr} (hl:ks.length<32):MI l (f.1::ks) n (wp m f):=by
 have hlen:=h.len
 have h0:=h.d0
 refine { made:=h.made,ins:=h.ins,wd:=h.wd,d0:=⟨by show 0≤mDeep m+1;omega,by show mDeep m+1≤32;omega⟩,st:=?_,lp:=h.lp,fl:=h.fl,ce:=h.ce,cl:=h.cl,mg:=h.mg,mr:=h.mr,ma:=h.ma,lk:=h.lk,ln:=h.ln }
 show kso (arL xY38 32 (arS xY38 32 _ _ _):List Fr) (mDeep m+1).toNat=_
 refine (congrArg (fun l:List Fr=>kso l _) arL_arS).trans ?_
 rw [show (mDeep m+1).toNat=(mDeep m).toNat+1 by omega]
 refine (kso_push (l:=mst m) (by rw [mst_len];omega)).trans ?_
 rw [h.st]
theorem mst_pop {l:List Ins} {k:Int} {ks:List Int} {n:Nat} {m:MT} (h:MI l (k::ks) n m): ∃ hj:(mDeep m).toNat - 1<(mst m).length,(mst m)[(mDeep m).toNat - 1].1=k∧kso (mst m) ((mDeep m).toNat - 1)=ks:=by
 have hlen:=h.len
 have h0:=h.d0
 have hml:=mst_len m
 rw [List.length_cons] at hlen
 have hj:(mDeep m).toNat - 1<(mst m).length:=by omega
 have h1:=kso_pop hj
 rw [show (mDeep m).toNat - 1+1=(mDeep m).toNat by omega,h.st,List.cons.injEq] at h1
 exact ⟨hj,h1.1.symm,h1.2.symm⟩
theorem MI.wo {l:List Ins} {k:Int} {ks:List Int} {n:Nat} {m:MT} (h:MI l (k::ks) n m):MI l ks n (wo m):=by
 have hlen:=h.len
 have h0:=h.d0
 rw [List.length_cons] at hlen
 obtain ⟨hj,_,h2⟩:=mst_pop h
 refine { made:=h.made,ins:=h.ins,wd:=h.wd,d0:=⟨by show 0≤mDeep m - 1;omega,by show mDeep m - 1≤32;omega⟩,st:=?_,lp:=h.lp,fl:=h.fl,ce:=h.ce,cl:=h.cl,mg:=h.mg,mr:=h.mr,ma:=h.ma,lk:=h.lk,ln:=h.ln }
 show kso (arL xY38 32 (arS xY38 32 _ _ _):List Fr) (mDeep m - 1).toNat=_
 refine (congrArg (fun l:List Fr=>kso l _) arL_arS).trans ?_
 rw [show (mDeep m - 1).toNat=(mDeep m).toNat - 1 by omega]
 exact (kso_cut (l:=mst m) (Nat.le_refl _)).trans h2
theorem MI.push {l:List Ins} {ks:List Int} {n:Nat} {m:MT} (h:MI l ks n m) {k x:Int} {lo:Lok} (hl:ks.length<32):Ok (vm_Machine__push m k x lo) fun m'=>m'=Fn.wp m (k,(x,(lo,())))∧MI l (k::ks) n m':=by
 have hlen:=h.len
 refine (push_ok h.d0.1 (by omega)).imp fun m' hm'=>⟨hm',?_⟩
 subst hm'
 exact MI.wp (f:=(k,(x,(lo,())))) h hl
theorem MI.pop {l:List Ins} {k:Int} {ks:List Int} {n:Nat} {m:MT} (h:MI l (k::ks) n m):Ok (vm_Machine__pop m) fun r=>r.2=Fn.wo m∧r.1.1=k∧MI l ks n r.2:=by
 have hlen:=h.len
 rw [List.length_cons] at hlen
 obtain ⟨hj,h1,_⟩:=mst_pop h
 refine (pop_ok (by omega) h.d0.2).imp fun r hr=>⟨hr.1,by rw [hr.2 hj];exact h1,?_⟩
 rw [hr.1]
 exact h.wo
theorem MI.top {l:List Ins} {ks:List Int} {n:Nat} {m:MT} (h:MI l ks n m):Ok (vm_Machine__top m) fun _=>True:=mtop_ok h.d0.1 h.d0.2
theorem MI.settle {l:List Ins} {ks:List Int} {n:Nat} {m:MT} (h:MI l ks n m):Ok (vm_Machine__settle m) fun m'=>MI l ks n m'∧mText m'=mText m∧Fix m m'∧mLists m'=mLists m:=by
 refine (settle_ok h.ln h.mr h.ma).imp fun m' hm'=>?_
 obtain ⟨mk,ls,mo,rfl,hls,hmk⟩:=hm'
 have e:wl (wm m mk) ls mo=Fn.W m (mFlow m) (mCells m) (mInRow m) (mMargin m) mk (mMarkerAt m) ls mo:=rfl
 rw [e]
 exact ⟨h.W h.fl h.ce h.cl h.mg hmk h.ma hls,rfl,Fix.rfl',rfl⟩
theorem bind_inl {α β γ:Type} {x:Option (α⊕β)} {a:α} {f:α→Option γ} {g:β→Option γ} {Q:γ→Prop} (h:x=some (.inl a)) (hf:Ok (f a) Q):Ok (x.bind fun d=>onSum d f g) Q:=by rw [h];exact hf
theorem bind_rr {α β δ γ:Type} {x:Option (α⊕(β⊕δ))} {f:α→Option γ} {g:β→Option γ} {h:δ→Option γ} {R:δ→Prop} {Q:γ→Prop} (hx:Ok x fun d=> ∃ y,d= .inr (.inr y)∧R y) (hq: ∀ y,R y→Ok (h y) Q):Ok (x.bind fun d=>onSum d f (fun b=>onSum b g h)) Q:=by
 obtain ⟨d,rfl,y,rfl,hy⟩:=hx
 exact hq y hy
theorem bind_rl {α β δ γ:Type} {x:Option (α⊕(β⊕δ))} {y:β} {f:α→Option γ} {g:β→Option γ} {h:δ→Option γ} {Q:γ→Prop} (hx:x=some (.inr (.inl y))) (hq:Ok (g y) Q):Ok (x.bind fun d=>onSum d f (fun b=>onSum b g h)) Q:=by rw [hx];exact hq
theorem kd {p:Prop} [Decidable p] {α:Type} {x y:α} (h: ¬ p):(bif decide p then x else y)=y:=by rw [decide_eq_false h];rfl
theorem ky {p:Prop} [Decidable p] {α:Type} {x y:α} (h:p):(bif decide p then x else y)=x:=by rw [decide_eq_true h];rfl
def Res (l:List Ins) (ks:List Int) (n:Nat) (s:List UInt8) (m m':MT):Prop:=MI l ks n m'∧LI ks m'∧mText m'=s∧Fix m m'
theorem inline_ok {l:List Ins} {ks ks':List Int} {n:Nat} {m:MT} {i:Ins} {s':List UInt8} (h:MI l ks n m) (hli:LI ks m) (hn:n≤70000) (hk:KS i.2.2.1 ks ks') (ha:AOp (mLooks m).length (mText m) i s') (h7:i.2.2.1≤7):Ok (vm_Machine__inline m i) (Res l ks' (n+1) s' m):=by
 have hfl:=h.fl
 have h1n:=h.mono (Nat.le_succ n)
 generalize hkk:i.2.2.1=k at hk h7
 unfold vm_Machine__inline
 cases hk with
 | text=>
  obtain ⟨hN1,hN2,rfl⟩:=ha.2.1 hkk
  refine bind_rr (R:=Res l ks (n+1) ((mText m).drop i.2.2.2.1.toNat) m) (Ok.yes hkk ?_) fun y hy=>Ok.some hy
  refine Ok.bind (Ok.sub (Q:=fun t=>t.length=i.2.2.2.1.toNat) (by omega) (by omega) (by show i.2.2.2.1≤((mText m).length:Int);omega) (by rw [List.length_take,List.length_drop];show min _ ((mText m).length - 0)=_;omega)) fun t ht=>?_
  refine Ok.bind (glyphs_ok h.d0.1 h.d0.2 (by omega) (by omega)) fun m' hm'=>?_
  obtain ⟨fl,rfl,hfl'⟩:=hm'
  refine Ok.bind (Ok.sub (Q:=fun t=>t=(mText m).drop i.2.2.2.1.toNat) (by omega) (by show i.2.2.2.1≤((mText m).length:Int);omega) (by show ((mText m).length:Int)≤(mText m).length;omega) ?_) fun u hu=>Ok.some ⟨_,rfl,?_,hli,hu,Fix.rfl'⟩
  ·show (List.drop _ (mText m)).take _=_
   rw [List.take_of_length_le]
   rw [List.length_drop];show (mText m).length - _≤((mText m).length:Int).toNat - _;omega
  ·refine { made:=h.made,ins:=h.ins,wd:=h.wd,d0:=h.d0,st:=h.st,lp:=h.lp,fl:=?_,ce:=h1n.ce,cl:=h.cl,mg:=h.mg,mr:=h.mr,ma:=h.ma,lk:=h1n.lk,ln:=h.ln }
   show fl.length+u.length≤_
   rw [hu,List.length_drop];omega
 | flat hf=>
  have hs:s'=mText m:=ha.2.2 (by omega)
  have hpc:Ok (vm_Machine__top m) fun _=>True:=h.top
  refine bind_rr (R:=Res l ks (n+1) s' m) (Ok.no (by omega) ?_) fun y hy=>Ok.some hy
  have hap: ∀ g:Gl,Ok (app 48 (mFlow m) [g]) fun fl=>Res l ks (n+1) s' m (wf m fl):=fun g=>(Ok.appE (by simp only [List.length_cons,List.length_nil];omega)).imp fun fl hfl'=>by
   refine ⟨?_,hli,hs.symm,Fix.rfl'⟩
   rw [wf_W]
   refine h1n.W ?_ h1n.ce h.cl h.mg h.mr h.ma h.ln
   rw [hfl',List.length_append];simp only [List.length_cons,List.length_nil];omega
  by_cases h6:i.2.2.1=6
  ·exact Ok.yes h6 (Ok.bind hpc fun t _=>Ok.bind (hap _) fun fl hfl=>Ok.some ⟨_,rfl,hfl⟩)
  ·exact Ok.no h6 (Ok.yes (by omega) (Ok.bind hpc fun t _=>Ok.bind (hap _) fun fl hfl=>Ok.some ⟨_,rfl,hfl⟩))
 | mark hf hl=>
  have hs:s'=mText m:=ha.2.2 (by omega)
  by_cases h2:i.2.2.1=2
  ·refine bind_rr (R:=Res l (k::ks) (n+1) s' m) (Ok.no (by omega) (Ok.no (by omega) (Ok.no (by omega) (Ok.yes h2 ?_)))) fun y hy=>Ok.some hy
   refine Ok.bind h.top fun t _=>Ok.bind (styled_ok (ha.1 (.inl h2))) fun lo _=>Ok.bind (h1n.push hl) fun m' hm'=>Ok.some ⟨_,rfl,?_⟩
   obtain ⟨rfl,hm'⟩:=hm'
   rw [hkk] at hm' ⊢
   refine ⟨hm',?_,hs.symm,Fix.rfl'⟩
   show (mLists m).length=_
   rw [List.count_cons_of_ne (by omega)]
   exact hli
  ·have e34:i.2.2.1=3∨i.2.2.1=4:=by omega
   refine bind_inl (a:=(m,i)) ?_ ?_
   ·rw [kd (by omega),kd (by omega),kd (by omega),kd h2]
    rcases e34 with e | e
    ·rw [ky e]
    ·rw [kd (by omega),ky e]
   ·refine Ok.bind (Q:=fun q:MT×(Ins×(Int×(Int×Unit)))=>q.1=m∧q.2.1=i) (Ok.ifs (fun _=>Ok.some ⟨rfl,rfl⟩) fun _=>Ok.some ⟨rfl,rfl⟩) fun q hq=>?_
    obtain ⟨qm,qi,qt⟩:=q
    obtain ⟨hq1,hq2⟩:=hq
    dsimp only at hq1 hq2
    subst hq1
    subst hq2
    have hlk:=h.lk
    refine Ok.bind (Ok.appE (by show ((mLinks qm).length+_)*_≤_;simp only [List.length_cons,List.length_nil];omega)) fun lks hlks=>?_
    have hlks1:lks.length=(mLinks qm).length+1:=by rw [hlks,List.length_append];rfl
    have hM:MI l ks (n+1) (u20 qm (((lks.length:Nat):Int),(lks,qm.2.2.2.2.2.2.2.2.2.2.2.2.2.2.2.2.2.2.2.2.2.2))):={ made:=h.made,ins:=h.ins,wd:=h.wd,d0:=h.d0,st:=h.st,lp:=h.lp,fl:=h1n.fl,ce:=h1n.ce,cl:=h.cl,mg:=h.mg,mr:=h.mr,ma:=h.ma,lk:=by show lks.length≤_;omega,ln:=h.ln }
    refine Ok.bind hM.top fun t _=>Ok.ends ((hM.push hl).imp fun m' hm'=>?_)
    obtain ⟨rfl,hm'⟩:=hm'
    rw [hkk] at hm' ⊢
    refine ⟨hm',?_,hs.symm,Fix.rfl'⟩
    show (mLists qm).length=_
    rw [List.count_cons_of_ne (by omega)]
    exact hli
 | @close kk _ h10 h12=>
  have hs:s'=mText m:=ha.2.2 (by omega)
  refine bind_rl (y:=m) ?_ ?_
  ·rw [kd (by omega),kd (by omega),kd (by omega),kd (by omega),kd (by omega),kd (by omega),ky hkk]
  ·refine Ok.ends (Ok.bind h1n.pop fun r hr=>?_)
   obtain ⟨f,m'⟩:=r
   obtain ⟨rfl,hf,hm'⟩:=hr
   have hli':(mLists m).length=ks'.count 10:=by
    have hli:(mLists m).length=_:=hli
    rw [List.count_cons_of_ne h10] at hli
    exact hli
   refine Ok.ifs (fun _=>Ok.some ⟨?_,hli',hs.symm,Fix.rfl'⟩) fun _=>Ok.some ⟨hm',hli',hs.symm,Fix.rfl'⟩
   exact { made:=hm'.made,ins:=hm'.ins,wd:=hm'.wd,d0:=hm'.d0,st:=hm'.st,lp:=hm'.lp,fl:=hm'.fl,ce:=hm'.ce,cl:=hm'.cl,mg:=hm'.mg,mr:=hm'.mr,ma:=hm'.ma,lk:=hm'.lk,ln:=hm'.ln }
 | _=>omega
theorem inline_id {m:MT} {i:Ins} (h7:8≤i.2.2.1):vm_Machine__inline m i=some m:=by
 unfold vm_Machine__inline
 rw [kd (by omega),kd (by omega),kd (by omega),kd (by omega),kd (by omega),kd (by omega),kd (by omega)]
 rfl
end Go.Fn
/- One step of the machine, plainly: blocks, and the step. -/
namespace Go.Fn
open Go Go.Lf
theorem count_le {l:List Ins} {ks:List Int} {n:Nat} {m:MT} (h:MI l ks n m) (hli:LI ks m):(mLists m).length≤32:=by
 have h1:=h.len
 have h2:=h.d0
 have h3:ks.count 10≤ks.length:=List.count_le_length
 have hli:(mLists m).length=ks.count 10:=hli
 omega
theorem block_para {l:List Ins} {ks:List Int} {n:Nat} {m:MT} {i:Ins} (h:MI l ks n m) (hli:LI ks m) (hn:n≤70000) (hN:i.2.2.1=8→i.2.2.2.1<(mLooks m).length) (hl:ks.length<32) (hkk:i.2.2.1=8):Ok (vm_Machine__block m i) (Res l (8::ks) (n+1) (mText m) m):=by
 have hfl:=h.fl
 have h1n:=h.mono (Nat.le_succ n)
 unfold vm_Machine__block
 refine Ok.yes hkk (Ok.bind (Q:=fun q:MT×Ins=>q.2=i∧MI l ks n q.1∧LI ks q.1∧mText q.1=mText m∧Fix m q.1) ?_ fun q hq=>?_)
 ·refine Ok.bind (Q:=fun b:Bool×(MT×Ins)=>b.2=(m,i)) (Ok.cond (fun _=>Ok.ifs (fun _=>Ok.some rfl) fun _=>Ok.some rfl) fun _=>Ok.some rfl) fun b hb=>?_
  obtain ⟨c,b⟩:=b
  obtain rfl:=hb
  refine Ok.cond (fun _=>Ok.bind (tell_ok (m:=m) (line:=[]) h.ln (by simp)) fun m' hm'=>Ok.some ?_) fun _=>Ok.some ⟨rfl,h,hli,rfl,Fix.rfl'⟩
  obtain ⟨ls,mo,rfl,hls⟩:=hm'
  have e:wl m ls mo=W m (mFlow m) (mCells m) (mInRow m) (mMargin m) (mMarker m) (mMarkerAt m) ls mo:=rfl
  rw [e]
  exact ⟨rfl,h.W h.fl h.ce h.cl h.mg h.mr h.ma hls,hli,rfl,Fix.rfl'⟩
 ·obtain ⟨q,qi⟩:=q
  obtain ⟨rfl,hq,hqli,hqt,hqf⟩:=hq
  have hM:MI l ks (n+1) (wf q []):=by
   rw [wf_W]
   have hq:=hq.mono (Nat.le_succ n)
   have hqfl:(mFlow q).length+(mText q).length≤16384+(n+1):=hq.fl
   exact hq.W (by show 0+(mText q).length≤16384+(n+1);omega) hq.ce hq.cl hq.mg hq.mr hq.ma hq.ln
  refine Ok.bind hM.top fun t _=>Ok.bind (styled_ok (m:=wf q []) (by show _<((mLooks q).length:Int);rw [hqf.1];exact hN hkk) ) fun lo _=>Ok.ends ((hM.push hl).imp fun m' hm'=>?_)
  obtain ⟨hmw,hm'⟩:=hm'
  have hm':MI l (8::ks) (n+1) m':=by first | exact hm' | (have h:=hm';rw [hkk] at h;exact h)
  subst hmw
  refine ⟨hm',?_,hqt,hqf⟩
  show (mLists q).length=_
  rw [List.count_cons_of_ne (by decide)]
  exact hqli
theorem block_done {l:List Ins} {ks':List Int} {n:Nat} {m:MT} {i:Ins} (h:MI l (8::ks') n m) (hli:LI (8::ks') m) (hn:n≤70000) (hkk:i.2.2.1=9):Ok (vm_Machine__block m i) (Res l ks' (n+1) (mText m) m):=by
 have hfl:=h.fl
 have h1n:=h.mono (Nat.le_succ n)
 unfold vm_Machine__block
 refine Ok.no (by omega) (Ok.yes hkk (Ok.bind h.pop fun r hr=>?_))
 obtain ⟨f,m'⟩:=r
 obtain ⟨rfl,_,hm⟩:=hr
 have hce:(mCells m).length≤n:=hm.ce
 have hflw:(mFlow m).length+(mText m).length≤16384+n:=hm.fl
 refine Ok.ends ((mend_ok (m:=wo m) hm.ln hm.mr hm.ma hm.mg.2 (by show (mFlow m).length≤_;omega) (by show (mCells m).length≤_;omega)).imp fun m' hm'=>?_)
 obtain ⟨c,mk,ls,mo,rfl,hls,hmk,hc⟩:=hm'
 have hm1:=hm.mono (Nat.le_succ n)
 refine ⟨hm1.W (by show 0+(mText m).length≤16384+(n+1);omega) ?_ ?_ hm.mg hmk hm.ma hls,?_,rfl,Fix.rfl'⟩
 ·rcases hc with rfl | rfl
  ·show (mCells m).length≤n+1
   omega
  ·rw [List.length_append];show (mCells m).length+1≤n+1;omega
 ·rcases hc with rfl | rfl
  ·exact hm.cl
  ·intro c hc
   rcases List.mem_append.1 hc with hc | hc
   ·exact hm.cl c hc
   ·rw [List.mem_singleton.1 hc]
    show (mFlow m).length≤_
    omega
 ·have hli:(mLists m).length=_:=hli
  rw [List.count_cons_of_ne (by decide)] at hli
  exact hli
theorem block_list {l:List Ins} {ks:List Int} {n:Nat} {m:MT} {i:Ins} (h:MI l ks n m) (hli:LI ks m) (hn:n≤70000) (hl:ks.length<32) (hkk:i.2.2.1=10):Ok (vm_Machine__block m i) (Res l (10::ks) (n+1) (mText m) m):=by
 have hfl:=h.fl
 have h1n:=h.mono (Nat.le_succ n)
 unfold vm_Machine__block
 refine Ok.no (by omega) (Ok.no (by omega) (Ok.yes hkk (Ok.bind h1n.settle fun m1 hm1=>?_)))
 obtain ⟨hm1,ht,hf,hls⟩:=hm1
 have hcl:=count_le h hli
 refine Ok.bind (Ok.appE (by show ((mLists m1).length+_)*_≤_;rw [hls];simp only [List.length_cons,List.length_nil];omega)) fun l2 hl2=>?_
 have hlp: ∀ p∈l2,0≤p.1∧p.1≤196:=fun p hp=>by
  rw [hl2] at hp
  rcases List.mem_append.1 hp with hp | hp
  ·exact hm1.lp p hp
  ·rw [List.mem_singleton.1 hp];exact hm1.mg
 have hM:MI l ks (n+1) (u10 m1 (l2,m1.2.2.2.2.2.2.2.2.2.2.2)):={ made:=hm1.made,ins:=hm1.ins,wd:=hm1.wd,d0:=hm1.d0,st:=hm1.st,lp:=hlp,fl:=hm1.fl,ce:=hm1.ce,cl:=hm1.cl,mg:=hm1.mg,mr:=hm1.mr,ma:=hm1.ma,lk:=hm1.lk,ln:=hm1.ln }
 refine Ok.ends ((hM.push hl).imp fun m' hm'=>?_)
 obtain ⟨hmw,hm'⟩:=hm'
 have hm':MI l (10::ks) (n+1) m':=by first | exact hm' | (have h:=hm';rw [hkk] at h;exact h)
 subst hmw
 refine ⟨hm',?_,ht,hf⟩
 show l2.length=_
 rw [List.count_cons_self,hl2,List.length_append]
 show (mLists m1).length+1=_
 rw [hls]
 have hli:(mLists m).length=_:=hli
 omega
theorem block_item {l:List Ins} {ks2:List Int} {n:Nat} {m:MT} {i:Ins} (h:MI l (10::ks2) n m) (hli:LI (10::ks2) m) (hn:n≤70000) (hkk:i.2.2.1=11):Ok (vm_Machine__block m i) (Res l (10::ks2) (n+1) (mText m) m):=by
 have hfl:=h.fl
 have h1n:=h.mono (Nat.le_succ n)
 unfold vm_Machine__block
 refine Ok.no (by omega) (Ok.no (by omega) (Ok.no (by omega) (Ok.yes hkk (Ok.bind h1n.settle fun m1 hm1=>Ok.ends ?_))))
 obtain ⟨hm1,ht,hf,hls⟩:=hm1
 have hcl:=count_le h hli
 have hli':(mLists m).length=_:=hli
 rw [List.count_cons_self] at hli'
 have hlen:=hm1.len
 rw [List.length_cons] at hlen
 refine (mmark_ok (m:=m1) (by intro e;rw [hls] at e;rw [e] at hli';simp at hli') hm1.lp (by rw [hls];omega) (by omega) hm1.d0.2 hm1.wd).imp fun m' hm'=>?_
 obtain ⟨st,mg,mk,ma,rfl,hmg,hmk,hma,hst⟩:=hm'
 refine ⟨{ made:=hm1.made,ins:=hm1.ins,wd:=hm1.wd,d0:=hm1.d0,st:=(hst _).trans hm1.st,lp:=hm1.lp,fl:=hm1.fl,ce:=hm1.ce,cl:=hm1.cl,mg:=hmg,mr:=hmk,ma:=hma,lk:=hm1.lk,ln:=hm1.ln },?_,ht,hf⟩
 show (mLists m1).length=_
 rw [hls]
 exact hli
theorem block_table {l:List Ins} {ks:List Int} {n:Nat} {m:MT} {i:Ins} (h:MI l ks n m) (hli:LI ks m) (hn:n≤70000) (hl:ks.length<32) (hkk:i.2.2.1=12):Ok (vm_Machine__block m i) (Res l (12::ks) (n+1) (mText m) m):=by
 have hfl:=h.fl
 have h1n:=h.mono (Nat.le_succ n)
 unfold vm_Machine__block
 refine Ok.no (by omega) (Ok.no (by omega) (Ok.no (by omega) (Ok.no (by omega) (Ok.yes hkk (Ok.bind (columns_total _ _) fun cs _=>?_)))))
 have hM:MI l ks (n+1) (u13 m (cs.1,(true,m.2.2.2.2.2.2.2.2.2.2.2.2.2.2.2))):={ made:=h.made,ins:=h.ins,wd:=h.wd,d0:=h.d0,st:=h.st,lp:=h.lp,fl:=h1n.fl,ce:=h1n.ce,cl:=h.cl,mg:=h.mg,mr:=h.mr,ma:=h.ma,lk:=h1n.lk,ln:=h.ln }
 refine Ok.ends ((hM.push hl).imp fun m' hm'=>?_)
 obtain ⟨hmw,hm'⟩:=hm'
 have hm':MI l (12::ks) (n+1) m':=by first | exact hm' | (have h:=hm';rw [hkk] at h;exact h)
 subst hmw
 refine ⟨hm',?_,rfl,Fix.rfl'⟩
 show (mLists m).length=_
 rw [List.count_cons_of_ne (by decide)]
 exact hli
theorem block_row {l:List Ins} {ks2:List Int} {n:Nat} {m:MT} {i:Ins} (h:MI l (12::ks2) n m) (hli:LI (12::ks2) m) (hn:n≤70000) (hkk:i.2.2.1=13):Ok (vm_Machine__block m i) (Res l (12::ks2) (n+1) (mText m) m):=by
 have hfl:=h.fl
 have h1n:=h.mono (Nat.le_succ n)
 unfold vm_Machine__block
 refine Ok.no (by omega) (Ok.no (by omega) (Ok.no (by omega) (Ok.no (by omega) (Ok.no (by omega) (Ok.yes hkk (Ok.bind (mrow_ok h1n.ln h1n.cl) fun m1 hm1=>?_))))))
 obtain ⟨c,ir,ls,mo,rfl,hls,hc⟩:=hm1
 have hM:=h1n.W (fl:=mFlow m) (ce:=c) (ir:=ir) (mg:=mMargin m) (mk:=mMarker m) (ma:=mMarkerAt m) (ls:=ls) (mo:=mo) h1n.fl (by rcases hc with rfl | rfl;exact h1n.ce;simp) (by rcases hc with rfl | rfl;exact h.cl;simp) h.mg h.mr h.ma hls
 have hlen:=h.len
 rw [List.length_cons] at hlen
 have h32:=h.d0.2
 have e2:IntKind.wrap .i64 (mDeep m - 1)=mDeep m - 1:=wrap64 (by omega) (by omega)
 obtain ⟨hj,_,_⟩:=mst_pop h
 refine Ok.bind (Ok.chk (Q:=(· =(mDeep m).toNat - 1)) (by show 0≤IntKind.wrap .i64 (mDeep m - 1);rw [e2];omega) (by show IntKind.wrap .i64 (mDeep m - 1)<_;rw [e2];omega) (by show (IntKind.wrap .i64 (mDeep m - 1)).toNat=_;rw [e2];omega)) fun j1 hj1=>?_
 subst hj1
 refine Ok.bind (Ok.nth (l:=mst m) (Q:=fun _=>True) hj trivial) fun f1 _=>?_
 refine Ok.bind (Ok.chk (Q:=(· =(mDeep m).toNat - 1)) (by show 0≤IntKind.wrap .i64 (mDeep m - 1);rw [e2];omega) (by show IntKind.wrap .i64 (mDeep m - 1)<_;rw [e2];omega) (by show (IntKind.wrap .i64 (mDeep m - 1)).toNat=_;rw [e2];omega)) fun j2 hj2=>?_
 subst hj2
 refine Ok.bind (Ok.nth (l:=mst m) (Q:=(· =(mst m)[(mDeep m).toNat - 1])) hj rfl) fun f2 hf2=>Ok.some ⟨{ made:=h.made,ins:=h.ins,wd:=h.wd,d0:=h.d0,st:=?_,lp:=h.lp,fl:=hM.fl,ce:=hM.ce,cl:=hM.cl,mg:=h.mg,mr:=h.mr,ma:=h.ma,lk:=h1n.lk,ln:=hls },hli,rfl,Fix.rfl'⟩
 show kso (arL xY38 32 (arS xY38 32 _ _ _):List Fr) (mDeep m).toNat=_
 refine (congrArg (fun l:List Fr=>kso l _) arL_arS).trans ?_
 refine (kso_keep (l:=mst m) hj (by rw [← hf2])).trans h.st
theorem block_fin {l:List Ins} {ks':List Int} {kk:Int} {n:Nat} {m:MT} {i:Ins} (h:MI l (kk::ks') n m) (hli:LI (kk::ks') m) (hn:n≤70000) (hkd:kk=10∨kk=12) (hkk:i.2.2.1=14):Ok (vm_Machine__block m i) (Res l ks' (n+1) (mText m) m):=by
 have hfl:=h.fl
 have h1n:=h.mono (Nat.le_succ n)
 unfold vm_Machine__block
 rw [kd (by omega),kd (by omega),kd (by omega),kd (by omega),kd (by omega),kd (by omega),ky hkk]
 refine Ok.bind h1n.pop fun r hr=>?_
 obtain ⟨f,m'⟩:=r
 obtain ⟨hmw,hfk,hm⟩:=hr
 dsimp only at hmw hfk hm
 have hli':(mLists m).length=_:=hli
 have hl':mLists m'=mLists m:=by rw [hmw]
 have ht':mText m'=mText m:=by rw [hmw]
 have hf':Fix m m':=by rw [hmw];exact Fix.rfl'
 clear hmw
 refine Ok.ifs (fun h12=>?_) fun h12=>?_
 ·have h12:f.1=12:=h12
  have hkk12:kk=12:=by rw [← hfk];exact h12
  subst hkk12
  rw [List.count_cons_of_ne (by decide)] at hli'
  refine Ok.bind (mrow_ok (m:=m') hm.ln hm.cl) fun m1 hm1=>Ok.some ?_
  obtain ⟨c,ir,ls,mo,hmw,hls,hc⟩:=hm1
  have hM:MI l ks' (n+1) m1:=by
   rw [hmw]
   exact hm.W hm.fl (by rcases hc with rfl | rfl;exact hm.ce;simp) (by rcases hc with rfl | rfl;exact hm.cl;simp) hm.mg hm.mr hm.ma hls
  have hl1:mLists m1=mLists m':=by rw [hmw]
  have ht1:mText m1=mText m':=by rw [hmw]
  have hf1:Fix m' m1:=by rw [hmw];exact Fix.rfl'
  clear hmw
  exact ⟨{ made:=hM.made,ins:=hM.ins,wd:=hM.wd,d0:=hM.d0,st:=hM.st,lp:=hM.lp,fl:=hM.fl,ce:=hM.ce,cl:=hM.cl,mg:=hM.mg,mr:=hM.mr,ma:=hM.ma,lk:=hM.lk,ln:=hM.ln },(congrArg List.length (hl1.trans hl')).trans hli',ht1.trans ht',hf'.trans hf1⟩
 ·have h12: ¬ (f.1=12):=h12
  have hkk10:kk=10:=by
   rcases hkd with h | h
   ·exact h
   ·exact absurd (hfk.trans h) h12
  subst hkk10
  rw [List.count_cons_self] at hli'
  have hcl:=count_le h hli
  refine Ok.bind hm.settle fun m1 hm1=>?_
  obtain ⟨hm1,ht,hf,hls⟩:=hm1
  have hls:mLists m1=mLists m:=hls.trans hl'
  have hl1:(mLists m1).length=ks'.count 10+1:=by rw [hls];exact hli'
  have e1:IntKind.wrap .i64 (((mLists m1).length:Int) - 1)=(mLists m1).length - 1:=wrap64 (by rw [hls];omega) (by rw [hls];omega)
  refine Ok.bind (Ok.chk (Q:=fun j=>j<(mLists m1).length) (by show 0≤IntKind.wrap .i64 (((mLists m1).length:Int) - 1);rw [e1];omega) (by show IntKind.wrap .i64 (((mLists m1).length:Int) - 1)<((mLists m1).length:Int);rw [e1];omega) (by show (IntKind.wrap .i64 (((mLists m1).length:Int) - 1)).toNat<_;rw [e1];omega)) fun j hj=>?_
  refine Ok.bind (Ok.nth (l:=mLists m1) (Q:=fun p=>0≤p.1∧p.1≤196) hj (hm1.lp _ (List.getElem_mem hj))) fun p hp=>?_
  refine Ok.bind (Ok.sub (l:=mLists m1) (Q:=fun t=>t=(mLists m1).take ((mLists m1).length - 1)) (by omega) (by show 0≤IntKind.wrap .i64 (((mLists m1).length:Int) - 1);rw [e1];omega) (by show IntKind.wrap .i64 (((mLists m1).length:Int) - 1)≤_;rw [e1];omega) ?_) fun t ht2=>Ok.some ⟨{ made:=hm1.made,ins:=hm1.ins,wd:=hm1.wd,d0:=hm1.d0,st:=hm1.st,lp:=fun p hp=>?_,fl:=hm1.fl,ce:=hm1.ce,cl:=hm1.cl,mg:=hp,mr:=hm1.mr,ma:=hm1.ma,lk:=hm1.lk,ln:=hm1.ln },?_,ht.trans ht',hf'.trans hf⟩
  ·show List.take ((IntKind.wrap .i64 (((mLists m1).length:Int) - 1)).toNat - _) (List.drop _ _)=_
   rw [e1]
   show List.take _ (List.drop 0 (mLists m1))=_
   rw [List.drop_zero]
   congr 1
   show (((mLists m1).length:Int) - 1).toNat - 0=_
   omega
  ·have hp:p∈t:=hp
   rw [ht2] at hp
   exact hm1.lp p (List.mem_of_mem_take hp)
  ·show t.length=_
   rw [ht2,List.length_take,hl1]
   omega
theorem block_ok {l:List Ins} {ks ks':List Int} {n:Nat} {m:MT} {i:Ins} (h:MI l ks n m) (hli:LI ks m) (hn:n≤70000) (hk:KS i.2.2.1 ks ks') (hN:i.2.2.1=8→i.2.2.2.1<(mLooks m).length) (h8:8≤i.2.2.1):Ok (vm_Machine__block m i) (Res l ks' (n+1) (mText m) m):=by
 generalize hkk:i.2.2.1=k at hk h8
 cases hk with
 | para hl=>exact block_para h hli hn hN hl hkk
 | done=>exact block_done h hli hn hkk
 | list hl=>exact block_list h hli hn hl hkk
 | item=>exact block_item h hli hn hkk
 | table hl=>exact block_table h hli hn hl hkk
 | row=>exact block_row h hli hn hkk
 | fin hkd=>exact block_fin h hli hn hkd hkk
 | _=>omega
theorem block_id {m:MT} {i:Ins} (h7:i.2.2.1≤7):vm_Machine__block m i=some m:=by
 unfold vm_Machine__block
 rw [kd (by omega),kd (by omega),kd (by omega),kd (by omega),kd (by omega),kd (by omega),kd (by omega)]
structure SI (l:List Ins) (ks:List Int) (s:List UInt8) (n:Nat) (m:MT):Prop where
 mi:MI l ks n m
 li:LI ks m
 tx:mText m=s
 pc:mPc m=n
 sp:mSteps m=n
 ha:mHalted m=false
 aw:AW (mLooks m).length ks s (l.drop n)
 ll:l.length≤65537
structure HI (l:List Ins) (n:Nat) (m:MT):Prop where
 mi:MI l [] n m
 li:(mLists m).length≤1000
 pc:mPc m=n
 sp:mSteps m=n+1
 ha:mHalted m=true
 nl:n+1=l.length
 ll:l.length≤65537
theorem is_ok {m:MT} (h:m.1=1):vm_Machine__is m=some true:=by
 unfold vm_Machine__is
 rw [decide_eq_true h]
theorem step_ok {l:List Ins} {ks:List Int} {s:List UInt8} {n:Nat} {m:MT} (h:SI l ks s n m):Ok (vm_Machine__Step m) fun r=>r.1=0∧((∃ ks' s',SI l ks' s' (n+1) r.2)∨HI l n r.2):=by
 have hlt:n<l.length:=by
  rcases Nat.lt_or_ge n l.length with h1 | h1
  ·exact h1
  ·have:=h.aw
   rw [List.drop_eq_nil_of_le h1] at this
   cases this
 have hll:=h.ll
 have hd:l.drop n=l[n]::l.drop (n+1):=List.drop_eq_getElem_cons hlt
 have haw:=h.aw
 rw [hd] at haw
 have hx:l[n]? =some l[n]:=List.getElem?_eq_getElem hlt
 generalize l[n]=i at haw hx
 unfold vm_Machine__Step
 refine Ok.bind (Ok.of (Q:=(· =true)) (is_ok h.mi.made) rfl) fun b hb=>?_
 subst hb
 refine Ok.cond (fun h=>by cases h) fun _=>Ok.cond (fun hh=>by have:=h.ha;rw [show mHalted m=true from hh] at this;cases this) fun _=>?_
 refine Ok.bind (Q:=(i= ·)) ⟨i,?_,rfl⟩ fun y hy=>?_
 ·show idx (mInstrs m) (mPc m)=_
  rw [h.mi.ins,h.pc,idx_nat,hx]
 subst hy
 have es:IntKind.wrap .i64 (mSteps m+1)=n+1:=by rw [h.sp];exact wrap64 (by omega) (by omega)
 have ep:IntKind.wrap .i64 (mPc m+1)=n+1:=by rw [h.pc];exact wrap64 (by omega) (by omega)
 have hmi:=h.mi
 refine Ok.ifs (fun h15=>Ok.some ⟨rfl, .inr ?_⟩) fun h15=>?_
 ·generalize hr:l.drop (n+1)=r at haw
  cases haw with
  | halt _=>
   have hlen:=congrArg List.length hr
   rw [List.length_drop,List.length_nil] at hlen
   exact { mi:={ made:=hmi.made,ins:=hmi.ins,wd:=hmi.wd,d0:=hmi.d0,st:=hmi.st,lp:=hmi.lp,fl:=hmi.fl,ce:=hmi.ce,cl:=hmi.cl,mg:=hmi.mg,mr:=hmi.mr,ma:=hmi.ma,lk:=hmi.lk,ln:=hmi.ln },li:=by have:=count_le h.mi h.li;show (mLists m).length≤1000;omega,pc:=h.pc,sp:=es,ha:=rfl,nl:=by omega,ll:=hll }
  | step hne _ _ _=>exact absurd h15 hne
 ·generalize hr:l.drop (n+1)=r at haw
  cases haw with
  | halt h=>exact absurd h h15
  | @step _ ks' _ s' _ _ _ hks hop hA=>
   have hM:MI l ks n (u5 m (IntKind.wrap .i64 (mPc m+1),(IntKind.wrap .i64 (mSteps m+1),m.2.2.2.2.2.2.2))):={ made:=hmi.made,ins:=hmi.ins,wd:=hmi.wd,d0:=hmi.d0,st:=hmi.st,lp:=hmi.lp,fl:=hmi.fl,ce:=hmi.ce,cl:=hmi.cl,mg:=hmi.mg,mr:=hmi.mr,ma:=hmi.ma,lk:=hmi.lk,ln:=hmi.ln }
   have hop':AOp (mLooks m).length (mText m) i s':=by rw [h.tx];exact hop
   refine Ok.bind (Q:=fun m1:MT=>(i.2.2.1≤7→Res l ks' (n+1) s' (u5 m (IntKind.wrap .i64 (mPc m+1),(IntKind.wrap .i64 (mSteps m+1),m.2.2.2.2.2.2.2))) m1)∧(8≤i.2.2.1→m1=u5 m (IntKind.wrap .i64 (mPc m+1),(IntKind.wrap .i64 (mSteps m+1),m.2.2.2.2.2.2.2)))) ?_ fun m1 hm1=>?_
   ·by_cases h7:i.2.2.1≤7
    ·exact (inline_ok hM h.li (by omega) hks hop' h7).imp fun m1 hm1=>⟨fun _=>hm1,fun h=>by omega⟩
    ·exact Ok.of (inline_id (by omega)) ⟨fun h=>absurd h h7,fun _=>rfl⟩
   refine Ok.bind (Q:=fun m2:MT=>Res l ks' (n+1) s' (u5 m (IntKind.wrap .i64 (mPc m+1),(IntKind.wrap .i64 (mSteps m+1),m.2.2.2.2.2.2.2))) m2) ?_ fun m2 hm2=>Ok.some ⟨rfl, .inl ⟨ks',s',?_⟩⟩
   ·by_cases h7:i.2.2.1≤7
    ·exact Ok.of (block_id h7) (hm1.1 h7)
    ·rw [hm1.2 (by omega)]
     refine (block_ok hM h.li (by omega) hks (fun h8=>hop'.1 (.inr h8)) (by omega)).imp fun m2 hm2=>⟨hm2.1,hm2.2.1,?_,hm2.2.2.2⟩
     rw [hm2.2.2.1,hop'.2.2 (by omega)]
   ·obtain ⟨h1,h2,h3,h4⟩:=hm2
    exact { mi:={ made:=h1.made,ins:=h1.ins,wd:=h1.wd,d0:=h1.d0,st:=h1.st,lp:=h1.lp,fl:=h1.fl,ce:=h1.ce,cl:=h1.cl,mg:=h1.mg,mr:=h1.mr,ma:=h1.ma,lk:=h1.lk,ln:=h1.ln },li:=h2,tx:=h3,pc:=h4.2.1.trans ep,sp:=h4.2.2.1.trans es,ha:=h4.2.2.2.trans h.ha,aw:=by rw [show mLooks _=mLooks m from h4.1,hr];exact hA,ll:=hll }
end Go.Fn
/- Machines that are made, and run, plainly. -/
namespace Go.Fn
open Go Go.Lf
def Live (l:List Ins) (m:MT):Prop:=(∃ ks s n,SI l ks s n m)∨ ∃ n,HI l n m
theorem Live.step {l:List Ins} {m:MT} (h:Live l m):Ok (vm_Machine__Step m) fun r=>(mHalted m=true∧r=(180,m))∨(mHalted m=false∧r.1=0∧Live l r.2∧mSteps r.2=mSteps m+1):=by
 rcases h with ⟨ks,s,n,h⟩ | ⟨n,h⟩
 ·refine (step_ok h).imp fun r hr=> .inr ⟨h.ha,hr.1,?_,?_⟩
  ·rcases hr.2 with ⟨ks',s',h'⟩ | h'
   ·exact .inl ⟨ks',s',n+1,h'⟩
   ·exact .inr ⟨n,h'⟩
  ·rcases hr.2 with ⟨ks',s',h'⟩ | h'
   ·rw [h'.sp,h.sp];omega
   ·rw [h'.sp,h.sp]
 ·refine ⟨(180,m),?_, .inl ⟨h.ha,rfl⟩⟩
  unfold vm_Machine__Step
  rw [is_ok h.mi.made]
  show (bif mHalted m then some ((180:Int),m) else _)=_
  rw [h.ha]
  rfl
theorem Live.made {l:List Ins} {m:MT} (h:Live l m):m.1=1:=by
 rcases h with ⟨ks,s,n,h⟩ | ⟨n,h⟩
 ·exact h.mi.made
 ·exact h.mi.made
noncomputable def stepS (m:MT):Option MT:=(vm_Machine__Step m).bind fun r=>if r.1=0 then some r.2 else none
noncomputable def iterS:Nat→MT→Option MT
 | 0,m=>some m
 | k+1,m=>(iterS k m).bind stepS
theorem iterS_add (a:Nat) (m:MT): ∀ b,iterS (a+b) m=(iterS a m).bind (iterS b)
 | 0=>by
  show iterS a m=_
  cases iterS a m<;>rfl
 | b+1=>by
  show (iterS (a+b) m).bind stepS=_
  rw [iterS_add a m b,Option.bind_assoc]
  rfl
theorem iterS_halted {l:List Ins} {m:MT} (h:Live l m) (hh:mHalted m=true) (j:Nat):iterS (j+1) m=none:=by
 have h1:stepS m=none:=by
  obtain ⟨r,hr,h2⟩:=h.step
  unfold stepS
  rw [hr]
  rcases h2 with ⟨_,rfl⟩ | ⟨h3,_⟩
  ·rfl
  ·rw [hh] at h3;cases h3
 have:iterS (1+j) m=(iterS 1 m).bind (iterS j):=iterS_add 1 m j
 rw [Nat.add_comm,this]
 show ((some m).bind stepS).bind _=_
 rw [Option.bind_some,h1]
 rfl
theorem run_ok {l:List Ins} {m:MT} (h:Live l m) {a:Nat} (ha:a≤1000000):Ok (vm_run m (a:Int)) fun r=> ∃ k:Nat,r.1=k∧k≤a∧iterS k m=some r.2∧Live l r.2∧(k<a→mHalted r.2=true):=by
 unfold vm_run
 refine Ok.ends (Ok.loop (fun k (z:Int×MT)=> ∃ j:Nat,z.1=j∧j+k=a∧iterS j m=some z.2∧Live l z.2) (fun k z hz=>?_) a _ (by omega) ⟨0,rfl,by omega,rfl,h⟩)
 obtain ⟨n,z⟩:=z
 obtain ⟨j,hj1,hj2,hj3,hj4⟩:=hz
 dsimp only at hj1 hj2 hj3 hj4 ⊢
 subst hj1
 refine Ok.bind (Q:=fun q:Bool×MT=>(q.1=true→j<a∧iterS (j+1) m=some q.2∧Live l q.2)∧(q.1=false→q.2=z∧(j<a→mHalted z=true))) ?_ fun q hq=>Ok.cond (fun hc=>?_) fun hc=>?_
 ·refine Ok.ifs (fun hlt=>?_) fun hge=>Ok.some ⟨fun h=>(by cases h),fun _=>⟨rfl,fun h=>by omega⟩⟩
  obtain ⟨r,hr,h2⟩:=hj4.step
  refine Ok.bind (Ok.of (Q:=(r= ·)) hr rfl) fun y hy=>Ok.some ?_
  subst hy
  rcases h2 with ⟨h3,rfl⟩ | ⟨h3,h4,h5,h6⟩
  ·exact ⟨fun h=>absurd (show decide ((180:Int)=0)=true from h) (by decide),fun _=>⟨rfl,fun _=>h3⟩⟩
  ·refine ⟨fun _=>⟨by omega,?_,h5⟩,fun h=>absurd h4 (of_decide_eq_false (show decide (r.1=0)=false from h))⟩
   show (iterS j m).bind stepS=some r.2
   rw [hj3,Option.bind_some]
   unfold stepS
   rw [hr,Option.bind_some,if_pos h4]
 ·obtain ⟨h1,h2,h3⟩:=hq.1 hc
  exact Ok.inl ⟨k - 1,by omega,j+1,wrapS (by omega),by omega,h2,h3⟩
 ·obtain ⟨h1,h2⟩:=hq.2 hc
  obtain ⟨c,q⟩:=q
  obtain rfl:q=z:=h1
  exact Ok.inr ⟨j,rfl,by omega,hj3,hj4,h2⟩
abbrev mk0 (m:MT) (lk:List Chg):MT:=(m.1,(lk,m.2.2))
theorem looks_ok (a0:List Sty) (hl:a0.length≤64) (m0:MT) (hm0:m0.2.1.length=0):Ok (loopU (σ:=Int×MT) (κ:=MT) (fun z4=>
   bif (decide (z4.1<(((List.length a0):Nat):Int))) then ((Go.Lf.idx a0 z4.1)).bind fun r5=>
   ((Go.Fn.style_Whole a0 r5.1)).bind fun r6=>
   ((Go.Lf.app (24:Nat) z4.2.2.1 (r6.1::([]:List Chg)))).bind fun r7=>
   some (.inl ((Go.IntKind.wrap .i64 (z4.1+(1:Int))),(z4.2.1,(r7,z4.2.2.2))))
   else some (.inr z4.2)) ((0:Int),m0)) fun m=> ∃ lk:List Chg,m=mk0 m0 lk∧lk.length=a0.length:=by
 refine Ok.range a0 (by omega) (fun i (m:MT)=> ∃ lk:List Chg,m=mk0 m0 lk∧lk.length=i) (fun i x m hx hm=>?_) (fun m hm=>?_) ⟨m0.2.1,rfl,hm0⟩
 ·have hlt:=at_len hx
  obtain ⟨lk,rfl,hlk⟩:=hm
  refine Ok.yes (by show (i:Int)<_;omega) (Ok.bind (Ok.idxE hx) fun y _=>Ok.bind (sWhole_ok a0 hl _) fun c _=>?_)
  refine Ok.bind (Ok.appE (by show (lk.length+_)*_≤_;simp only [List.length_cons,List.length_nil];omega)) fun lk2 hlk2=>Ok.inl ⟨wrapS (by omega),lk2,rfl,?_⟩
  rw [hlk2,List.length_append]
  show lk.length+1=_
  omega
 ·obtain ⟨lk,rfl,hlk⟩:=hm
  exact Ok.no (by show ¬ ((a0.length:Int)<_);omega) (Ok.inr ⟨lk,rfl,hlk⟩)
theorem ccheck_ok (b:List Int) (s:List UInt8) (styles topics:Int):Ok (check_Check b s styles topics) fun r=>r.2=0→ ∃ l at_,code_Instrs b=some (l,(at_,0))∧AW styles [] s l∧Instrs l∧s.length≤16384∧l.length≤65537:=by
 unfold check_Check
 exact Ok.bind (run_ok' b s styles topics) fun r hr=>Ok.some hr
end Go.Fn
/- Two machines that stand alike, plainly. -/
namespace Go.Fn
open Go Go.Lf
theorem ne_self {α β:Type} [DecidableEq α] {a:α} {x y:β}:(bif (!(decide (a≠a))) then x else y)=x:=by
 rw [decide_eq_false (by simp)];rfl
theorem same12_ok (l:List Gl) (hl:l.length≤1000000):Ok (folioref12_Same l l) (· =true):=by
 unfold folioref12_Same
 refine Ok.no (by simp) ?_
 refine Ok.bind (Q:=Nx (fun _=>True) (fun _=>False)) ?_ fun d hd=>?_
 ·refine Ok.range0 l (by omega) (fun _=>True) (fun i x hx _=>?_) (fun _=>?_) trivial
  ·have hlt:=at_len hx
   refine Ok.yes (by omega) (Ok.bind (Q:=(· =false)) ?_ fun b hb=>?_)
   ·have hi: ∀ {β:Type} {f:Gl→Option β} {Q:β→Prop},Ok (f x) Q→Ok ((idx l (i:Int)).bind f) Q:=fun h=>Ok.bind (Ok.idxE hx) fun y hy=>by subst hy;exact h
    refine hi (hi ?_)
    rw [ne_self]
    refine hi (hi ?_)
    rw [ne_self]
    refine hi (hi ?_)
    rw [ne_self]
    refine hi (hi ?_)
    rw [ne_self]
    exact hi (hi (Ok.some (by simp)))
   ·subst hb
    exact Ok.inl ⟨wrapS (by omega),trivial⟩
  ·exact Ok.no (by omega) (Ok.inr trivial)
 ·cases d with
  | inl _=>exact Ok.onL (Ok.some rfl)
  | inr _=>exact hd.elim
theorem sameAll_ok (l:List (List Gl)) (hl:l.length≤1000000) (hx: ∀ x∈l,x.length≤1000000):Ok (folioref12_SameAll l l) (· =true):=by
 unfold folioref12_SameAll
 refine Ok.no (by simp) ?_
 refine Ok.bind (Q:=Nx (fun _=>True) (fun _=>False)) ?_ fun d hd=>?_
 ·refine Ok.range0 l (by omega) (fun _=>True) (fun i x hxi _=>?_) (fun _=>?_) trivial
  ·have hlt:=at_len hxi
   refine Ok.yes (by omega) (Ok.bind (Ok.idxE hxi) fun y hy=>?_)
   subst hy
   refine Ok.bind (Ok.idxE hxi) fun y hy=>?_
   subst hy
   refine Ok.bind (same12_ok x (hx x (List.mem_of_getElem? hxi))) fun b hb=>?_
   subst hb
   exact Ok.inl ⟨wrapS (by omega),trivial⟩
  ·exact Ok.no (by omega) (Ok.inr trivial)
 ·cases d with
  | inl _=>exact Ok.onL (Ok.some rfl)
  | inr _=>exact hd.elim
abbrev Rc:Type:=Int×(Int×(Int×(Int×Unit)))
abbrev Ld:Type:=List (List Gl)×(List Rc×(List (Int×(Int×Unit))×(Bool×Unit)))
theorem rects_ok (ls:List (List Gl)) (h:LnOk ls):Ok (layout_Rects ls) fun r=>r.length≤100000000:=by
 unfold layout_Rects
 obtain ⟨h1,h2⟩:=h
 refine Ok.ends (Ok.loop (fun k (z:List Rc×Int)=> ∃ i:Nat,z.2=i∧i+k=ls.length∧z.1.length≤5000*i) (fun k z hz=>?_) ls.length _ (by omega) ⟨0,rfl,by omega,by show (0:Nat)≤_;omega⟩)
 obtain ⟨out,n⟩:=z
 obtain ⟨i,hz1,hz2,hz3⟩:=hz
 dsimp only at hz1 hz3 ⊢
 subst hz1
 refine Ok.ifs (fun hlt=>?_) fun _=>Ok.inr (by omega)
 have hi:i<ls.length:=by omega
 have hx:ls[i]? =some ls[i]:=List.getElem?_eq_getElem hi
 have hl:=h2 ls[i] (List.getElem_mem hi)
 generalize ls[i]=l at hx hl
 refine Ok.bind (Ok.idxE hx) fun y hy=>?_
 subst hy
 refine Ok.bind (Q:=fun o:List Rc=>o.length≤5000*(i+1)) ?_ fun o ho=>Ok.inl ⟨k - 1,by omega,i+1,wrapS (by omega),by omega,ho⟩
 refine Ok.range l (by omega) (fun j (s:Int×(List Rc×Int))=>s.2.1.length≤5000*i+j∧(s.2.2≠0→0<s.2.1.length)) (fun j x s hx hs=>?_) (fun s hs=>?_) ⟨by show out.length≤_;omega,fun h=>absurd rfl h⟩
 ·obtain ⟨col,o,last⟩:=s
  obtain ⟨hs1,hs2⟩:=hs
  dsimp only at hs1 hs2 ⊢
  have hlt:=at_len hx
  refine Ok.yes (by omega) (Ok.bind (Ok.idxE hx) fun y hy=>?_)
  subst hy
  refine Ok.bind (Q:=fun q:List Rc×Gl=>q.2=x∧q.1.length≤5000*i+(j+1)∧(x.2.2.2.1≠0→0<q.1.length)) ?_ fun q hq=>?_
  ·refine Ok.bind (Q:=fun q:Bool×(List Rc×Gl)=>q.2=(o,x)∧(q.1=true→x.2.2.2.1≠0∧x.2.2.2.1=last)) (Ok.ifs (fun h=>Ok.some ⟨rfl,fun h'=>⟨h,of_decide_eq_true h'⟩⟩) fun _=>Ok.some ⟨rfl,fun h=>(by cases h)⟩) fun q hq=>?_
   obtain ⟨c,q⟩:=q
   obtain ⟨rfl,hc⟩:=hq
   dsimp only
   refine Ok.cond (fun h=>?_) fun _=>Ok.ifs (fun _=>?_) fun h0=>Ok.some ⟨rfl,by show o.length≤_;omega,fun h=>absurd h h0⟩
   ·obtain ⟨hc1,hc2⟩:=hc h
    have hpos:=hs2 (by rw [← hc2];exact hc1)
    have e1:IntKind.wrap .i64 (((o.length:Nat):Int) - 1)=o.length - 1:=wrap64 (by omega) (by omega)
    refine Ok.bind (Ok.chk (Q:=fun j=>j<o.length) (by rw [e1];omega) (by rw [e1];omega) (by rw [e1];omega)) fun j1 hj1=>Ok.bind (Ok.nth (Q:=fun _=>True) hj1 trivial) fun _ _=>?_
    refine Ok.bind (Ok.chk (Q:=fun j=>j<o.length) (by rw [e1];omega) (by rw [e1];omega) (by rw [e1];omega)) fun j2 hj2=>Ok.bind (Ok.nth (Q:=fun _=>True) hj2 trivial) fun _ _=>Ok.some ⟨rfl,?_,fun _=>?_⟩
    ·show (List.set _ _ _).length≤_
     rw [List.length_set];omega
    ·show 0<(List.set _ _ _).length
     rw [List.length_set];exact hpos
   ·refine Ok.bind (Ok.appE (by simp only [List.length_cons,List.length_nil];omega)) fun o2 ho2=>Ok.some ⟨rfl,?_,fun _=>?_⟩
    ·show o2.length≤_
     rw [ho2,List.length_append];simp only [List.length_cons,List.length_nil];omega
    ·show 0<o2.length
     rw [ho2,List.length_append];simp only [List.length_cons,List.length_nil];omega
  ·obtain ⟨o2,q⟩:=q
   obtain ⟨rfl,hq1,hq2⟩:=hq
   exact Ok.inl ⟨wrapS (by omega),hq1,hq2⟩
 ·have hs1:=hs.1
  exact Ok.no (by show ¬ ((l.length:Int)<_);omega) (Ok.inr (by show s.2.1.length≤_;omega))
end Go.Fn
/- Chapter 18's first example, reckoned. -/
namespace Go.Fn
open Go Go.Lf
theorem awake:foliolaw18_awake=some true:=by kernel_rfl
end Go.Fn
/- Some steps and then some more are all of them; a clone goes on alike. -/
namespace Go.Fn
open Go Go.Lf
theorem Live.facts {l:List Ins} {m:MT} (h:Live l m):m.1=1∧ ∃ ks n,MI l ks n m∧mPc m=n∧n<l.length∧l.length≤65537:=by
 rcases h with ⟨ks,s,n,h⟩ | ⟨n,h⟩
 ·refine ⟨h.mi.made,ks,n,h.mi,h.pc,?_,h.ll⟩
  rcases Nat.lt_or_ge n l.length with h1 | h1
  ·exact h1
  ·have:=h.aw
   rw [List.drop_eq_nil_of_le h1] at this
   cases this
 ·exact ⟨h.mi.made,[],n,h.mi,h.pc,by have:=h.nl;omega,h.ll⟩
section
variable {l:List Ins} {m:MT}
theorem is_bind {β:Type} {f:Bool→Option β} {Q:β→Prop} (h:m.1=1) (hf:Ok (f true) Q):Ok ((vm_Machine__is m).bind f) Q:=by rw [is_ok h];exact hf
theorem at_ok (h:Live l m):Ok (vm_Machine__At m) fun _=>True:=by
 obtain ⟨h1,ks,n,hm,hp,hn,_⟩:=h.facts
 unfold vm_Machine__At
 refine is_bind h1 (Ok.cond (fun h=>by cases h) fun _=>Ok.bind (Q:=fun _=>True) ⟨l[n],?_,trivial⟩ fun _ _=>Ok.some trivial)
 show idx (mInstrs m) (mPc m)=_
 rw [hm.ins,hp,idx_nat,List.getElem?_eq_getElem hn]
theorem lines_eq (h:m.1=1):vm_Machine__Lines m=some ((mLines m).length:Int):=by
 unfold vm_Machine__Lines
 rw [is_ok h]
 rfl
theorem steps_eq (h:m.1=1):vm_Machine__Steps m=some (mSteps m):=by
 unfold vm_Machine__Steps
 rw [is_ok h]
 rfl
theorem halted_eq (h:m.1=1):vm_Machine__Halted m=some (mHalted m):=by
 unfold vm_Machine__Halted
 rw [is_ok h]
 rfl
theorem cloneG_eq {x:List Gl} (h:x.length≤1000000):clone_G x=some x:=by
 show app 48 [] x=_
 rw [app_of (by rw [List.length_nil];omega),List.nil_append]
end
end Go.Fn
/- Two machines that differ in what they lay out alone: they step alike. -/
namespace Go.Lf
def Pc {α:Type} (x:Option α) (Q:α→Prop):Prop:= ∀ r,x=some r→Q r
def P2 {α β:Type} (x:Option α) (y:Option β) (R:α→β→Prop):Prop:= ∀ r s,x=some r→y=some s→R r s
section
variable {α β γ δ σ κ σ' κ':Type}
theorem Pc.bind {x:Option α} {f:α→Option β} {Q:α→Prop} {R:β→Prop} (h:Pc x Q) (hf: ∀ a,Q a→Pc (f a) R):Pc (x.bind f) R:=fun r hr=>by
 obtain ⟨a,h1,h2⟩:=Option.bind_eq_some_iff.1 hr
 exact hf a (h a h1) r h2
theorem Pc.any {x:Option α} {f:α→Option β} {R:β→Prop} (hf: ∀ a,Pc (f a) R):Pc (x.bind f) R:=Pc.bind (Q:=fun _=>True) (fun _ _=>trivial) fun a _=>hf a
theorem Pc.some {a:α} {Q:α→Prop} (h:Q a):Pc (some a) Q:=fun r hr=>by injection hr with hr;subst hr;exact h
theorem Pc.inl {z:σ} {I:σ→Prop} {Q:κ→Prop} (h:I z):Pc (Option.some (Sum.inl z:σ⊕κ)) (Nx I Q):=Pc.some h
theorem Pc.inr {k:κ} {I:σ→Prop} {Q:κ→Prop} (h:Q k):Pc (Option.some (Sum.inr k:σ⊕κ)) (Nx I Q):=Pc.some h
theorem Pc.cond {b:Bool} {x y:Option α} {Q:α→Prop} (h:Pc x Q) (h':Pc y Q):Pc (cond b x y) Q:=by
 cases b
 ·exact h'
 ·exact h
theorem Pc.onSum {d:α⊕β} {f:α→Option γ} {g:β→Option γ} {Q:γ→Prop} (h: ∀ a,d= .inl a→Pc (f a) Q) (h': ∀ b,d= .inr b→Pc (g b) Q):Pc (onSum d f g) Q:=by
 cases d
 ·exact h _ rfl
 ·exact h' _ rfl
theorem Pc.iter {B:σ→Option (σ⊕κ)} {Q:κ→Prop} (I:σ→Prop) (h: ∀ z,I z→Pc (B z) (Nx I Q)): ∀ (N:Nat) (z:σ),I z→Pc (iter B N z) Q
 | 0,_,_=>fun _ hr=>by cases hr
 | N+1,z,hz=>by
  unfold Lf.iter
  refine Pc.bind (h z hz) fun d hd=>?_
  cases d with
  | inl z'=>exact Pc.iter I h N z' hd
  | inr k=>exact Pc.some hd
theorem Pc.loop {B:σ→Option (σ⊕κ)} {Q:κ→Prop} (I:σ→Prop) (h: ∀ z,I z→Pc (B z) (Nx I Q)) {z:σ} (hz:I z):Pc (loopU B z) Q:=Pc.iter I h _ z hz
theorem Pc.ends {x:Option α} {Q:α→Prop} (h:Pc x Q):Pc (x.bind fun r=>Option.some r) Q:=h.bind fun _ ha=>Pc.some ha
theorem P2.of {x:Option α} {y:Option β} {Q:α→Prop} {Q':β→Prop} {R:α→β→Prop} (h:Pc x Q) (h':Pc y Q') (hr: ∀ a b,Q a→Q' b→R a b):P2 x y R:=fun r s hx hy=>hr r s (h r hx) (h' s hy)
theorem P2.eq {x y:Option α} (h:x=y):P2 x y Eq:=fun r s hx hy=>by rw [h,hy] at hx;injection hx with hx;exact hx.symm
theorem P2.bind {x:Option α} {y:Option β} {f:α→Option γ} {g:β→Option δ} {S:α→β→Prop} {R:γ→δ→Prop} (h:P2 x y S) (hf: ∀ a b,S a b→P2 (f a) (g b) R):P2 (x.bind f) (y.bind g) R:=fun r s hx hy=>by
 obtain ⟨a,h1,h2⟩:=Option.bind_eq_some_iff.1 hx
 obtain ⟨b,h3,h4⟩:=Option.bind_eq_some_iff.1 hy
 exact hf a b (h a b h1 h3) r s h2 h4
theorem P2.any {x:Option α} {y:Option β} {f:α→Option γ} {g:β→Option δ} {R:γ→δ→Prop} (hf: ∀ a b,P2 (f a) (g b) R):P2 (x.bind f) (y.bind g) R:=P2.bind (S:=fun _ _=>True) (fun _ _ _ _=>trivial) fun a b _=>hf a b
theorem P2.same {x y:Option α} {f:α→Option γ} {g:α→Option δ} {R:γ→δ→Prop} (h:x=y) (hf: ∀ a,P2 (f a) (g a) R):P2 (x.bind f) (y.bind g) R:=P2.bind (P2.eq h) fun a b hab=>by subst hab;exact hf a
theorem P2.some {a:α} {b:β} {R:α→β→Prop} (h:R a b):P2 (some a) (some b) R:=fun r s hx hy=>by injection hx with hx;injection hy with hy;subst hx;subst hy;exact h
theorem P2.cond {b c:Bool} {x y:Option α} {x' y':Option β} {R:α→β→Prop} (hb:b=c) (h:P2 x x' R) (h':P2 y y' R):P2 (cond b x y) (cond c x' y') R:=by
 subst hb
 cases b
 ·exact h'
 ·exact h
theorem P2.ends {x:Option α} {y:Option β} {R:α→β→Prop} (h:P2 x y R):P2 (x.bind fun r=>Option.some r) (y.bind fun r=>Option.some r) R:=h.bind fun _ _ ha=>P2.some ha
def N2 (I:σ→σ'→Prop) (R:κ→κ'→Prop):σ⊕κ→σ'⊕κ'→Prop
 | .inl a, .inl b=>I a b
 | .inr a, .inr b=>R a b
 | _,_=>False
theorem P2.onSum {d:α⊕β} {e:σ⊕κ} {f:α→Option γ} {g:β→Option γ} {f':σ→Option δ} {g':κ→Option δ} {I:α→σ→Prop} {J:β→κ→Prop} {R:γ→δ→Prop} (h:N2 I J d e) (hf: ∀ a b,I a b→P2 (f a) (f' b) R) (hg: ∀ a b,J a b→P2 (g a) (g' b) R):P2 (onSum d f g) (onSum e f' g') R:=by
 cases d<;>cases e
 ·exact hf _ _ h
 ·exact h.elim
 ·exact h.elim
 ·exact hg _ _ h
theorem P2.iter {B:σ→Option (σ⊕κ)} {B':σ'→Option (σ'⊕κ')} {R:κ→κ'→Prop} (I:σ→σ'→Prop) (h: ∀ z z',I z z'→P2 (B z) (B' z') (N2 I R)): ∀ (N:Nat) (z:σ) (z':σ'),I z z'→P2 (iter B N z) (iter B' N z') R
 | 0,_,_,_=>fun _ _ hr=>by cases hr
 | N+1,z,z',hz=>by
  unfold Lf.iter
  refine P2.bind (h z z' hz) fun d e hd=>?_
  cases d<;>cases e
  ·exact P2.iter I h N _ _ hd
  ·exact hd.elim
  ·exact hd.elim
  ·exact P2.some hd
theorem P2.loop {B:σ→Option (σ⊕κ)} {B':σ'→Option (σ'⊕κ')} {R:κ→κ'→Prop} (I:σ→σ'→Prop) (h: ∀ z z',I z z'→P2 (B z) (B' z') (N2 I R)) {z:σ} {z':σ'} (hz:I z z'):P2 (loopU B z) (loopU B' z') R:=P2.iter I h _ z z' hz
end
end Go.Lf
namespace Go.Fn
open Go Go.Lf
abbrev Cor:Type:=Int×(List Chg×(List Ins×(Int×(Int×(Bool×((arT xY38 32).den×Int))))))
def core (m:MT):Cor:=(m.1,(m.2.1,(m.2.2.1,(m.2.2.2.2.2.1,(m.2.2.2.2.2.2.1,(m.2.2.2.2.2.2.2.1,(m.2.2.2.2.2.2.2.2.1,m.2.2.2.2.2.2.2.2.2.1)))))))
section
variable {m m':MT} (h:core m=core m')
include h
end
end Go.Fn
/- What a machine told stays. -/
namespace Go.Fn
open Go Go.Lf
def Pre (a b:MT):Prop:=mLines a <+:mLines b
theorem Pre.rfl {m:MT}:Pre m m:=List.prefix_refl _
theorem Pre.trans {a b c:MT} (h:Pre a b) (h':Pre b c):Pre a c:=List.IsPrefix.trans h h'
theorem Pre.of {a b:MT} (h:mLines b=mLines a):Pre a b:=by unfold Pre;rw [h];exact List.prefix_refl _
theorem tell_p (m:MT) (l:List Gl):Pc (vm_Machine__tell m l) (Pre m):=by
 unfold vm_Machine__tell
 refine Pc.cond (Pc.some (Pre.of rfl)) (Pc.bind (Q:=fun r=>r=mLines m++[l]) (fun r hr=>?_) fun r hr=>Pc.some ?_)
 ·unfold app at hr
  split at hr
  ·injection hr with hr
   exact hr.symm
  ·cases hr
 ·exact ⟨[l],hr.symm⟩
theorem marked_p (m:MT):Pc (vm_Machine__marked m) fun r=>mLines r.2=mLines m:=by
 unfold vm_Machine__marked
 refine Pc.any fun l=>Pc.bind (Q:=fun r:List Gl×MT=>r.2=m) ?_ fun r hr=>Pc.some ?_
 ·refine Pc.loop (fun (z:List Gl×((List UInt8×Int)×MT))=>z.2.2=m) (fun z hz=>Pc.cond (Pc.any fun _=>Pc.any fun _=>Pc.inl ?_) (Pc.inr ?_)) rfl
  ·exact hz
  ·exact hz
 ·obtain ⟨r1,r2⟩:=r
  obtain rfl:r2=m:=hr
  rfl
theorem settle_p (m:MT):Pc (vm_Machine__settle m) (Pre m):=by
 unfold vm_Machine__settle
 exact Pc.cond (Pc.bind (marked_p m) fun r hr=>Pc.ends fun m' hm'=>(Pre.of hr).trans (tell_p r.2 r.1 m' hm')) (Pc.some Pre.rfl)
theorem Pre.wf {m:MT} {l:List Gl}:Pre m (wf m l):=Pre.of _root_.rfl
theorem Pre.cells {m:MT} {l:List Gl} {r:List (List Gl)}:Pre m (u11 m (l,(r,m.2.2.2.2.2.2.2.2.2.2.2.2.2))):=Pre.of _root_.rfl
theorem mend_p (m:MT):Pc (vm_Machine__end m) (Pre m):=by
 unfold vm_Machine__end
 refine Pc.cond ?_ ?_
 ·exact Pc.any fun _=>Pc.some Pre.cells
 refine Pc.any fun r2=>Pc.bind (Q:=Pre m) ?_ fun r4 hr4=>Pc.ends ?_
 ·exact Pc.cond (Pc.ends fun m' hm'=>Pre.wf.trans (settle_p _ m' hm')) (Pc.some Pre.wf)
 refine Pc.loop (fun (z:Int×MT)=>Pre m z.2) (fun z hz=>?_) hr4
 refine Pc.cond ?_ (Pc.inr hz)
 refine Pc.any fun _=>Pc.bind (Q:=fun r:List Gl×MT=>Pre m r.2) ?_ fun r8 hr8=>?_
 ·refine Pc.cond (Pc.ends fun r hr=>hz.trans (Pre.of (marked_p z.2 r hr))) (Pc.some hz)
 ·refine Pc.any fun _=>Pc.any fun _=>Pc.bind (tell_p r8.2 _) fun m' hm'=>?_
  exact Pc.inl (hr8.trans hm')
theorem mrow_p (m:MT):Pc (vm_Machine__row m) (Pre m):=by
 unfold vm_Machine__row
 refine Pc.cond (Pc.some Pre.rfl) (Pc.any fun _=>Pc.bind (Q:=Pre m) ?_ fun r hr=>Pc.some ?_)
 ·refine Pc.loop (fun (z:Int×MT)=>Pre m z.2) (fun z hz=>Pc.cond (Pc.any fun _=>Pc.bind (tell_p z.2 _) fun m' hm'=>Pc.inl ?_) (Pc.inr ?_)) Pre.rfl
  ·exact hz.trans hm'
  ·exact hz
 ·exact hr
theorem glyphs_p (m:MT) (s:List UInt8):Pc (vm_Machine__glyphs m s) (Pre m):=by
 unfold vm_Machine__glyphs
 refine Pc.any fun _=>Pc.ends (Pc.loop (fun (z:Int×MT)=>Pre m z.2) (fun z hz=>Pc.cond (Pc.any fun _=>Pc.any fun _=>Pc.any fun fl=>Pc.inl ?_) (Pc.inr ?_)) Pre.rfl)
 ·exact hz.trans (Pre.of (show mLines (wf z.2 fl)=mLines z.2 from rfl))
 ·exact hz
theorem push_p (m:MT) (k n:Int) (l:Lok):Pc (vm_Machine__push m k n l) (Pre m):=by
 unfold vm_Machine__push
 exact Pc.any fun _=>Pc.any fun _=>Pc.some (Pre.of rfl)
theorem push_f {m0 m:MT} {k n:Int} {l:Lok} {m':MT} (h:vm_Machine__push m k n l=some m') (h0:mLines m=mLines m0):Pre m0 m':=(Pre.of h0).trans (push_p m k n l m' h)
theorem pop_p (m:MT):Pc (vm_Machine__pop m) fun r=>Pre m r.2:=by
 unfold vm_Machine__pop
 exact Pc.any fun _=>Pc.any fun _=>Pc.any fun _=>Pc.any fun _=>Pc.some (Pre.of rfl)
theorem mark_p (m:MT):Pc (vm_Machine__mark m) (Pre m):=by
 unfold vm_Machine__mark
 refine Pc.any fun _=>Pc.any fun _=>Pc.any fun _=>Pc.any fun _=>Pc.any fun _=>?_
 exact Pc.cond (Pc.any fun _=>Pc.any fun _=>Pc.any fun _=>Pc.any fun _=>Pc.any fun _=>Pc.any fun _=>Pc.some (Pre.of rfl)) (Pc.any fun _=>Pc.any fun _=>Pc.any fun _=>Pc.some (Pre.of rfl))
theorem inline_p (m:MT) (i:Ins):Pc (vm_Machine__inline m i) (Pre m):=by
 unfold vm_Machine__inline
 refine Pc.bind (Q:=Nx (fun p:MT×Ins=>Pre m p.1) (Nx (fun p:MT=>Pre m p) (fun p:MT=>Pre m p))) ?_ fun d hd=>Pc.onSum (fun a ha=>?_) fun e he=>Pc.onSum (fun a ha=>?_) fun a ha=>?_
 ·refine Pc.cond (Pc.any fun r1=>Pc.bind (glyphs_p m r1) fun r2 hr=>Pc.any fun _=>Pc.some hr) ?_
  refine Pc.cond (Pc.any fun _=>Pc.any fun _=>Pc.some (Pre.of rfl)) ?_
  refine Pc.cond (Pc.any fun _=>Pc.any fun _=>Pc.some (Pre.of rfl)) ?_
  refine Pc.cond (Pc.any fun _=>Pc.any fun _=>Pc.bind (push_p m _ _ _) fun _ h=>Pc.some h) ?_
  refine Pc.cond (Pc.some Pre.rfl) ?_
  refine Pc.cond (Pc.some Pre.rfl) ?_
  exact Pc.cond (Pc.some Pre.rfl) (Pc.some Pre.rfl)
 ·subst ha
  obtain ⟨a,ai⟩:=a
  have hd:Pre m a:=hd
  refine Pc.bind (Q:=fun q:MT×(Ins×(Int×(Int×Unit)))=>Pre m q.1) (Pc.cond (Pc.some hd) (Pc.some hd)) fun q hq=>Pc.any fun l=>Pc.any fun t=>Pc.ends fun m' hm'=>?_
  exact hq.trans (push_f hm' (by rfl))
 ·subst he ha
  have hd:Pre m a:=hd
  exact Pc.ends (Pc.bind (pop_p a) fun r hr=>Pc.cond (Pc.some (hd.trans hr)) (Pc.some (hd.trans hr)))
 ·subst he ha
  exact Pc.some hd
theorem block_p (m:MT) (i:Ins):Pc (vm_Machine__block m i) (Pre m):=by
 unfold vm_Machine__block
 refine Pc.cond (Pc.bind (Q:=fun p:MT×Ins=>Pre m p.1) ?_ fun p hp=>?_) ?_
 ·refine Pc.bind (Q:=fun b:Bool×(MT×Ins)=>b.2=(m,i)) (Pc.cond (Pc.cond (Pc.some rfl) (Pc.some rfl)) (Pc.some rfl)) fun b hb=>?_
  obtain ⟨c,b⟩:=b
  obtain rfl:=hb
  exact Pc.cond (Pc.bind (tell_p m []) fun m2 hm2=>Pc.some hm2) (Pc.some Pre.rfl)
 ·exact Pc.any fun _=>Pc.any fun _=>Pc.ends fun m' hm'=>hp.trans (push_f hm' (by rfl))
 refine Pc.cond (Pc.bind (pop_p m) fun r hr=>Pc.ends fun m' hm'=>hr.trans (mend_p r.2 m' hm')) ?_
 refine Pc.cond (Pc.bind (settle_p m) fun a ha=>Pc.any fun l=>Pc.ends fun m' hm'=>ha.trans (push_f hm' (by rfl))) ?_
 refine Pc.cond (Pc.bind (settle_p m) fun a ha=>Pc.ends fun m' hm'=>ha.trans (mark_p a m' hm')) ?_
 refine Pc.cond (Pc.any fun c=>Pc.ends fun m' hm'=>push_f hm' (by rfl)) ?_
 refine Pc.cond (Pc.bind (mrow_p m) fun a ha=>Pc.any fun _=>Pc.any fun _=>Pc.any fun _=>Pc.any fun _=>Pc.some (ha.trans (Pre.of rfl))) ?_
 exact Pc.cond (Pc.bind (pop_p m) fun r hr=>Pc.cond (Pc.bind (mrow_p r.2) fun a ha=>Pc.some ((hr.trans ha).trans (Pre.of rfl))) (Pc.bind (settle_p r.2) fun a ha=>Pc.any fun _=>Pc.any fun _=>Pc.any fun _=>Pc.some ((hr.trans ha).trans (Pre.of rfl)))) (Pc.some Pre.rfl)
theorem step_p (m:MT):Pc (vm_Machine__Step m) fun r=>Pre m r.2:=by
 unfold vm_Machine__Step
 refine Pc.any fun _=>Pc.cond (Pc.some Pre.rfl) (Pc.cond (Pc.some Pre.rfl) (Pc.any fun i=>Pc.cond (Pc.some (Pre.of rfl)) ?_))
 exact Pc.bind (inline_p _ i) fun a ha=>Pc.bind (block_p a i) fun c hc=>Pc.some ((Pre.trans (Pre.of rfl) ha).trans hc)
end Go.Fn
open Go Go.Lf
set_option maxRecDepth 10000
namespace Go.Fn
noncomputable def foliolaw18_VmHaltsCtx:Lf.Ctx:=⟨161,Tys,[foliolaw18_twinEnt,foliolaw18_awakeEnt,vm_NewEnt,vm_Machine__StepEnt,vm_Machine__LineEnt,code_InstrsEnt,vm_Machine__HaltedEnt,vm_Machine__AtEnt,vm_Machine__StepsEnt,vm_Machine__StackEnt,vm_Machine__LinesEnt,vm_Machine__LaidEnt,vm_Machine__RunEnt,folioref12_SameAllEnt],[16,24,117,24,34,11],[],[(16,xY49),(117,xY49),(7000017, .dead 11 .unit)],[],TysEq,[],some 4611686018427387904,TysIm,[]⟩
noncomputable def foliolaw18_VmHaltsCode:Go.Code:=(Go.Proofs.Tryz.f5.body).getD .skip
def foliolaw18_VmHaltsAnn:Lf.Ann:=(.seq .no (.seq .no (.seq .no (.seq .no (.seq .no (.seq (.seq (.join (.one .nrm ⟨[13],[],[(53, .bool),(11,(.bo 86 (.st (.pr (.int .i64) xY195))))],[],[]⟩) .no) .no) (.seq .no (.seq (.seq (.bop [11] .no) (.loop ⟨[13],[(11, .ref 11 [] 0)],[(16,xY49),(17,(.int .i64))],[(11,86,(.st (.pr (.int .i64) xY195)))],[]⟩ (.more (.ext 0) ⟨[13],[(11, .ref 11 [] 0)],[(16,xY49)],[(11,86,(.st (.pr (.int .i64) xY195)))],[]⟩ (.one .ret ⟨[],[],[(10, .bool)],[],[]⟩)) (.seq .no (.seq (.seq (.seq (.join (.one .nrm ⟨[13,17],[(11, .ref 11 [] 0)],[(100, .bool),(16,xY49)],[(11,86,(.st (.pr (.int .i64) xY195)))],[]⟩) (.wt 33 [31] (.wt 32 [31] (.wt 15 [14] (.soup 10))))) .no) (.seq .no (.loop ⟨[13,17],[(11, .ref 11 [] 0)],[(18,(.int .i64)),(16,xY49)],[(11,86,(.st (.pr (.int .i64) xY195)))],[]⟩ (.more (.ext 2) ⟨[13,17],[(11, .ref 11 [] 0)],[(16,xY49)],[(11,86,(.st (.pr (.int .i64) xY195)))],[]⟩ (.one .ret ⟨[],[],[(10, .bool)],[],[]⟩)) .no))) .no)))) (.seq .no (.seq (.join (.one .nrm ⟨[],[],[(10, .bool)],[],[]⟩) .no) .no))))))))))
noncomputable def foliolaw18_VmHalts (a0:List ((List (UInt8))×((List (UInt8))×(((Int)×((Int)×((Int)×(Unit))))×(Unit))))) (a1:List (Int)) (a2:List (UInt8)) (a3:Int) (a4:Int):Option (Bool):=
 (Go.Fn.foliolaw18_awake).bind fun r1=>
 bif (!r1) then some false
 else ((Go.Fn.foliolaw18_twin a0)).bind fun r2=>
 ((Lf.app (1:Nat) ([]:List (Int)) a1)).bind fun r3=>
 ((Go.Fn.vm_New r2 r3 a2 a3 a4)).bind fun r4=>
 bif (decide ((r4.2:Int)≠(0:Int))) then some (!(Option.isSome r4.1))
 else ((Lf.app (1:Nat) ([]:List (Int)) a1)).bind fun r5=>
 ((Go.Fn.code_Instrs r5)).bind fun r6=>
 (bif (!(decide ((r6.2.2:Int)≠(0:Int)))) then some ((!(Option.isSome r4.1)),r4.1)
  else some (true,r4.1)).bind fun r7=>
 bif r7.1 then some false
 else (r7.2).bind fun r8=>
 (Lf.loopU (σ:=(List (List xT25))×((Int)×((Int)×(xT3×xT171)))) (κ:=xT172⊕(Bool)) (fun z9=>
   bif (decide (z9.2.1<(((List.length r6.1):Nat):Int))) then (((Go.Fn.vm_Machine__Halted z9.2.2)).bind fun r10=>
    bif (!r10) then ((Go.Fn.vm_Machine__At z9.2.2)).bind fun r11=>
    ((Lf.idx r6.1 z9.2.1)).bind fun r12=>
    bif (!(decide ((r11:Int)≠r12.1))) then ((Go.Fn.vm_Machine__Steps z9.2.2)).bind fun r13=>
    bif (!(decide ((r13:Int)≠z9.2.1))) then ((Go.Fn.vm_Machine__Step z9.2.2)).bind fun r14=>
    bif (!(decide ((r14.1:Int)≠(0:Int)))) then ((Go.Fn.vm_Machine__Stack r14.2)).bind fun r15=>
    bif (!(decide ((32:Int)<(((List.length r15.1):Nat):Int)))) then ((Go.Fn.vm_Machine__Lines r15.2)).bind fun r16=>
    bif (!(decide (r16<(((List.length z9.1):Nat):Int)))) then ((Go.Fn.vm_Machine__Lines r15.2)).bind fun r17=>
    some ((decide ((2000:Int)<r17)),(z9.1,r15.2))
    else some (true,(z9.1,r15.2))
    else some (true,(z9.1,r15.2))
    else some (true,(z9.1,r14.2))
    else some (true,(z9.1,z9.2.2))
    else some (true,(z9.1,z9.2.2))
    else some (true,(z9.1,z9.2.2))).bind fun r18=>
   bif r18.1 then some (.inr (.inr false))
   else (Lf.loopU (σ:=(Int)×xT172) (κ:=xT172⊕(Bool)) (fun z19=>
     ((Go.Fn.vm_Machine__Lines z19.2.2)).bind fun r20=>
     bif (decide (z19.1<r20)) then ((Go.Fn.vm_Machine__Line z19.2.2 z19.1)).bind fun r21=>
     bif (decide ((r21.2.1:Int)≠(0:Int))) then some (.inr (.inr false))
     else ((Lf.app (24:Nat) z19.2.1 (r21.1::([]:List (List xT25))))).bind fun r22=>
     some (.inl ((Go.IntKind.wrap .i64 (z19.1+(1:Int))),(r22,r21.2.2)))
     else some (.inr (.inl z19.2))) ((((List.length r18.2.1):Nat):Int),r18.2):Option (xT172⊕(Bool))).bind fun r23=>
   Lf.onSum r23 (fun a24=>
   some (.inl (a24.1,((Go.IntKind.wrap .i64 (z9.2.1+(1:Int))),a24.2)))) (fun b25=>
   some (.inr (.inr b25)))
   else some (.inr (.inl (z9.1,z9.2.2)))) (([]:List (List xT25)),((0:Int),r8)):Option (xT172⊕(Bool))).bind fun r26=>
 Lf.onSum r26 (fun a27=>
 ((Go.Fn.vm_Machine__Laid a27.2)).bind fun r28=>
 (((Go.Fn.vm_Machine__Halted r28.2.2)).bind fun r29=>
  bif r29 then ((Go.Fn.vm_Machine__Stack r28.2.2)).bind fun r30=>
  bif (decide (((((List.length r30.1):Nat):Int):Int)=(0:Int))) then ((Go.Fn.vm_Machine__Step r30.2)).bind fun r31=>
  bif (decide ((r31.1:Int)=(180:Int))) then (((Go.Fn.vm_run r31.2 (5:Int))).bind fun r32=>
   some r32).bind fun r33=>
  bif (decide ((r33.1:Int)=(0:Int))) then ((Go.Fn.vm_Machine__Steps r33.2)).bind fun r34=>
  bif (decide ((r34:Int)=(((List.length r6.1):Nat):Int))) then bif (decide ((r28.2.1:Int)=(0:Int))) then ((Go.Fn.folioref12_SameAll r28.1.1 a27.1)).bind fun r35=>
  some r35
  else some false
  else some false
  else some false
  else some false
  else some false
  else some false).bind fun r36=>
 some r36) (fun b37=>
 some b37)
theorem foliolaw18_VmHalts_eq (a0:List ((List (UInt8))×((List (UInt8))×(((Int)×((Int)×((Int)×(Unit))))×(Unit))))) (a1:List (Int)) (a2:List (UInt8)) (a3:Int) (a4:Int):Lf.fnE foliolaw18_VmHaltsCtx foliolaw18_VmHaltsCode foliolaw18_VmHaltsAnn [.val (.sl (.st xY37)), .val (.sl (.int .u8)), .val .str, .val (.int .i64), .val (.int .i64)] [.bool] [.tmp 10] (a0,a1,a2,a3,a4)=foliolaw18_VmHalts a0 a1 a2 a3 a4:=by kernel_rfl
noncomputable def foliolaw18_VmHaltsEnt:Nat×Lf.Entry:=(5,⟨[.val (.sl (.st xY37)), .val (.sl (.int .u8)), .val .str, .val (.int .i64), .val (.int .i64)],[.bool],fun z=>foliolaw18_VmHalts z.1 z.2.1 z.2.2.1 z.2.2.2.1 z.2.2.2.2⟩)
theorem foliolaw18_VmHalts_ok:Lf.EntryOk Go.Proofs.Tryz.prog GG 5 foliolaw18_VmHaltsEnt.2:=
 Lf.fn_ok (c:=foliolaw18_VmHaltsCtx) (code:=foliolaw18_VmHaltsCode) (an:=foliolaw18_VmHaltsAnn) (slots:=[.tmp 10]) (fn:=Go.Proofs.Tryz.f5) (by kernel_rfl) ⟨Tys_ok,Lf.FnsOk.look (.con foliolaw18_twin_ok (.con foliolaw18_awake_ok (.con vm_New_ok (.con vm_Machine__Step_ok (.con vm_Machine__Line_ok (.con code_Instrs_ok (.con vm_Machine__Halted_ok (.con vm_Machine__At_ok (.con vm_Machine__Steps_ok (.con vm_Machine__Stack_ok (.con vm_Machine__Lines_ok (.con vm_Machine__Laid_ok (.con vm_Machine__Run_ok (.con folioref12_SameAll_ok .nil)))))))))))))),Lf.IpsOk.look .nil,TysEq_ok,TysIm_ok,Lf.IvsOk.look .nil,Lf.FxsOk.look .nil⟩ (by kernel_rfl) (by kernel_rfl) (by kernel_rfl) (by kernel_rfl) (by kernel_rfl) (Nat.le_of_ble_eq_true rfl) (by simp [Lf.Ty.top]) (by simp [Lf.Ty.top]) fun z r h=>(foliolaw18_VmHalts_eq z.1 z.2.1 z.2.2.1 z.2.2.2.1 z.2.2.2.2).trans h
end Go.Fn
/- It halts behind as many steps as there are instructions; what was told stays. -/
namespace Go.Fn
open Go Go.Lf
section
variable {l:List Ins} {m:MT}
theorem Live.at (h:Live l m):(mHalted m=false∧ ∃ n:Nat,mSteps m=n∧mPc m=n∧n<l.length)∨(mHalted m=true∧mSteps m=(l.length:Int)∧mDeep m=0):=by
 rcases h with ⟨ks,s,n,h⟩ | ⟨n,h⟩
 ·refine .inl ⟨h.ha,n,h.sp,h.pc,?_⟩
  rcases Nat.lt_or_ge n l.length with h1 | h1
  ·exact h1
  ·have:=h.aw
   rw [List.drop_eq_nil_of_le h1] at this
   cases this
 ·refine .inr ⟨h.ha,?_,?_⟩
  ·rw [h.sp, ← h.nl];omega
  ·have:=h.mi.len
   exact this.symm
theorem stack_len (h:Live l m):Ok (vm_Machine__Stack m) fun r=>r.2=m∧r.1.length≤32∧(mDeep m=0→r.1.length=0):=by
 obtain ⟨h1,ks,n,hm,_⟩:=h.facts
 unfold vm_Machine__Stack
 have hd:=hm.d0
 refine is_bind h1 (Ok.cond (fun h=>by cases h) fun _=>Ok.bind (Ok.chk (Q:=fun j=>j≤32∧(mDeep m=0→j=0)) hd.1 (by show mDeep m<33;omega) ⟨by show (mDeep m).toNat≤32;omega,fun h=>by show (mDeep m).toNat=0;rw [h];rfl⟩) fun j hj=>?_)
 have hl:=mst_len m
 refine Ok.bind (Q:=fun t=>t.length≤32∧(mDeep m=0→t.length=0)) ?_ fun t ht=>Ok.some ⟨rfl,ht⟩
 refine ⟨List.take j (mst m),?_,by show (List.take j (mst m)).length≤32;rw [List.length_take];omega,fun h=>by show (List.take j (mst m)).length=0;rw [hj.2 h];rfl⟩
 show app 32 [] (List.take j (mst m))=_
 rw [app_of (by rw [List.length_take,List.length_nil];omega),List.nil_append]
theorem at_val (h:Live l m) {n:Nat} (hp:mPc m=n) (hn:n<l.length):vm_Machine__At m=some (l[n]).1:=by
 obtain ⟨h1,ks,n2,hm,_⟩:=h.facts
 unfold vm_Machine__At
 rw [is_ok h1]
 show (idx (mInstrs m) (mPc m)).bind _=_
 rw [hm.ins,hp,idx_nat,List.getElem?_eq_getElem hn]
 rfl
theorem Live.ln (h:Live l m):LnOk (mLines m):=by
 obtain ⟨_,_,_,hm,_⟩:=h.facts
 exact hm.ln
theorem line_val (h:Live l m) {i:Nat} (hi:i<(mLines m).length):vm_Machine__Line m (i:Int)=some ((mLines m)[i],(0,m)):=by
 obtain ⟨h1,ks,n,hm,_⟩:=h.facts
 refine Ok.eq ?_
 unfold vm_Machine__Line
 refine is_bind h1 (Ok.cond (fun h=>by cases h) fun _=>?_)
 refine Ok.bind (Q:=fun q:Bool×MT=>q=(false,m)) ?_ fun q hq=>?_
 ·refine Ok.cond (fun _=>Ok.some ?_) fun h=>?_
  ·show (decide (((mLines m).length:Int)≤(i:Int)),m)=_
   rw [decide_eq_false (by omega)]
  ·exact absurd h (by simp)
 ·subst hq
  refine Ok.cond (fun h=>by cases h) fun _=>?_
  refine Ok.bind (Q:=((mLines m)[i]= ·)) ⟨(mLines m)[i],?_,rfl⟩ fun x hx=>?_
  ·show idx (mLines m) (i:Int)=_
   rw [idx_nat,List.getElem?_eq_getElem hi]
  ·have hl:=hm.ln.2 _ (List.getElem_mem hi)
   rw [hx] at hl
   rw [cloneG_eq (by omega),hx]
   exact Ok.some rfl
theorem laid_val (h:Live l m) (hh:mHalted m=true):Ok (vm_Machine__Laid m) fun r=>r.2=(0,m)∧r.1.1=mLines m:=by
 obtain ⟨h1,ks,n,hm,hp,hn,hl65⟩:=h.facts
 unfold vm_Machine__Laid
 refine is_bind h1 (Ok.cond (fun h=>by cases h) fun _=>Ok.cond (fun h=>?_) fun _=>?_)
 ·have h:(!mHalted m)=true:=h
  rw [hh] at h
  cases h
 have hlk:=hm.lk
 obtain ⟨hln1,hln2⟩:=hm.ln
 refine Ok.bind (Q:=fun _=>True) ⟨mLinks m,?_,trivial⟩ fun lks _=>?_
 ·show app 16 [] (mLinks m)=_
  rw [app_of (by rw [List.length_nil];omega),List.nil_append]
 refine Ok.bind (Q:=fun q:Ld×(MT×Ld)=>q.2.1=m∧q.2.2.1=mLines m) ?_ fun q hq=>?_
 ·refine Ok.range (mLines m) (by omega) (fun i (s:Ld×(Ld×MT))=>s.2.2=m∧s.1.1=(mLines m).take i) (fun i x s hx hs=>?_) (fun s hs=>?_) ⟨rfl,rfl⟩
  ·obtain ⟨hs1,hs2⟩:=hs
   have hlt:=at_len hx
   have hxl:=hln2 x (List.mem_of_getElem? hx)
   refine Ok.yes (by show (i:Int)<((mLines m).length:Int);omega) (Ok.bind (Ok.idxE hx) fun y hy=>?_)
   subst hy
   rw [cloneG_eq (by omega)]
   refine Ok.bind (Ok.some (Q:=(x= ·)) rfl) fun y hy=>?_
   subst hy
   refine Ok.bind (Ok.appE (by rw [hs2,List.length_take];simp only [List.length_cons,List.length_nil];omega)) fun t ht=>Ok.inl ⟨wrapS (by omega),hs1,?_⟩
   show t=_
   rw [ht,hs2,List.take_add_one,hx]
   rfl
  ·obtain ⟨hs1,hs2⟩:=hs
   exact Ok.no (by show ¬ (((mLines m).length:Int)<((mLines m).length:Int));omega) (Ok.inr ⟨hs1,by show s.1.1=_;rw [hs2,List.take_length]⟩)
 ·obtain ⟨hq1,hq2⟩:=hq
  refine Ok.bind (rects_ok _ (by rw [hq2];exact ⟨hln1,hln2⟩)) fun r hr=>Ok.some ⟨?_,hq2⟩
  show ((0:Int),q.2.1)=_
  rw [hq1]
end
end Go.Fn
/- VmHalts, plainly. -/
namespace Go.Fn
open Go Go.Lf
set_option maxRecDepth 4000 in
theorem new_ok2 (a0:List Sty) (a1:List Int) (a2:List UInt8) (a3 a4:Int):Ok (vm_New a0 a1 a2 a3 a4) fun r=>(r.2≠0∧r.1=none)∨(r.2=0∧ ∃ m l,r.1=some m∧Live l m∧mSteps m=0∧mLines m=[]∧ ∃ at_,code_Instrs a1=some (l,(at_,0))):=by
 unfold vm_New
 refine Ok.bind (Q:=fun b=>b=false→10≤a4∧a4≤200) ?_ fun b hb=>Ok.cond (fun _=>Ok.some (.inl ⟨by decide,rfl⟩)) fun h=>?_
 ·cases h1:decide (a4<10) with
  | true=>exact Ok.some (by simp)
  | false=>
   have h1:=of_decide_eq_false h1
   exact Ok.some fun h=>⟨by omega,by have:=of_decide_eq_false h;omega⟩
 have hw:=hb h
 refine Ok.bind (scheck_ok a0) fun e he=>Ok.ifs (fun h=>Ok.some (.inl ⟨h,rfl⟩)) fun h0=>Ok.ifs (fun _=>Ok.some (.inl ⟨by decide,rfl⟩)) fun _=>?_
 obtain ⟨hl64,_⟩:=he (Decidable.not_not.1 h0)
 refine Ok.bind (ccheck_ok a1 a2 _ a3) fun e2 he2=>Ok.ifs (fun h=>Ok.some (.inl ⟨h,rfl⟩)) fun h0=>?_
 obtain ⟨l,at_,hI,hA,hIn,hs,hll⟩:=he2 (Decidable.not_not.1 h0)
 refine Ok.bind (looks_ok a0 hl64 _ rfl) fun m hm=>?_
 obtain ⟨lk,rfl,hlk⟩:=hm
 refine Ok.bind (Ok.of (Q:=((l,(at_,0))= ·)) hI rfl) fun r hr=>Ok.some (.inr ⟨rfl,_,l,rfl, .inl ⟨[],a2,0,?_⟩,rfl,rfl,at_,hI⟩)
 subst hr
 refine { mi:={ made:=rfl,ins:=rfl,wd:=hw,d0:=⟨by show (0:Int)≤0;omega,by show (0:Int)≤32;omega⟩,st:=rfl,lp:=fun p hp=>(by cases hp),fl:=?_,ce:=Nat.le_refl _,cl:=fun p hp=>(by cases hp),mg:=⟨by show (0:Int)≤0;omega,by show (0:Int)≤196;omega⟩,mr:=by show (0:Nat)≤196;omega,ma:=by show (0:Int)≤196;omega,lk:=Nat.le_refl _,ln:=⟨by show (0:Nat)≤2000;omega,fun p hp=>(by cases hp)⟩ },li:=rfl,tx:=rfl,pc:=rfl,sp:=rfl,ha:=rfl,aw:=?_,ll:=hll }
 ·show 0+a2.length≤_
  omega
 ·show AW ((lk.length:Nat):Int) [] a2 (l.drop 0)
  rw [hlk]
  exact hA
theorem pre_of {x y:MT} {c:Int} (h:vm_Machine__Step x=some (c,y)):Pre x y:=step_p x (c,y) h
set_option maxHeartbeats 2000000 in
theorem halts_true (a0:List Sty) (a1:List Int) (a2:List UInt8) (a3 a4:Int) (h0:a0.length*56≤140737488351232) (h1:a1.length*1≤140737488351232):foliolaw18_VmHalts a0 a1 a2 a3 a4=some true:=by
 refine Ok.eq ?_
 unfold foliolaw18_VmHalts
 rw [awake]
 refine Ok.sb (Ok.cond (fun h=>by cases h) fun _=>?_)
 have ht:foliolaw18_twin a0=some a0:=by
  unfold foliolaw18_twin
  rw [app_of (by rw [List.length_nil];omega),List.nil_append]
  rfl
 have hb:app 1 [] a1=some a1:=by rw [app_of (by rw [List.length_nil];omega),List.nil_append]
 rw [ht]
 refine Ok.sb ?_
 rw [hb]
 refine Ok.sb ?_
 obtain ⟨⟨x,e⟩,hN,hN2⟩:=new_ok2 a0 a1 a2 a3 a4
 rw [hN]
 refine Ok.sb ?_
 dsimp only at hN2 ⊢
 rcases hN2 with ⟨he,rfl⟩ | ⟨rfl,m,l,rfl,hL,hst,hln,at_,hI⟩
 ·exact Ok.yes he (Ok.some rfl)
 refine Ok.no (fun h=>h rfl) (Ok.sb ?_)
 rw [hI]
 refine Ok.sb ?_
 refine Ok.bind (Q:=fun q=>q=(false,(some m:Option MT))) (Ok.some rfl) fun q hq=>?_
 subst hq
 refine Ok.cond (fun h=>by cases h) fun _=>Ok.sb ?_
 have hl65:l.length≤65537:=by
  obtain ⟨_,_,_,_,_,_,h⟩:=hL.facts
  exact h
 refine Ok.bind (Q:=fun d=> ∃ m':MT,d=Sum.inl (mLines m',m')∧Live l m'∧mHalted m'=true∧mSteps m'=(l.length:Int)∧mDeep m'=0) ?_ fun d hd=>?_
 ·refine Ok.loop (fun k (z:List (List Gl)×(Int×MT))=> ∃ i:Nat,i+k=l.length∧z.2.1=i∧z.1=mLines z.2.2∧Live l z.2.2∧mSteps z.2.2=i) (fun k z hz=>?_) l.length _ (by omega) ⟨0,by omega,rfl,hln.symm,hL,hst⟩
  obtain ⟨told,c,x⟩:=z
  obtain ⟨i,hi,hc,htold,hLx,hsx⟩:=hz
  dsimp only at hc htold hLx hsx ⊢
  subst hc htold
  rcases hLx.at with ⟨hf,n,hsn,hpn,hn⟩ | ⟨hh,hs,hd⟩
  ·have hni:n=i:=by rw [hsx] at hsn;omega
   subst hni
   refine Ok.yes (by omega) ?_
   refine Ok.bind (Q:=fun q:Bool×(List (List Gl)×MT)=> ∃ x',q=(false,(mLines x,x'))∧Live l x'∧mSteps x'=((n+1:Nat):Int)∧Pre x x') ?_ fun q hq=>?_
   ·rw [halted_eq hLx.made]
    refine Ok.sb ?_
    rw [hf]
    refine Ok.cond (fun _=>?_) fun h=>(by cases h)
    rw [at_val hLx hpn hn]
    refine Ok.sb (Ok.bind (Q:=(l[n]= ·)) ⟨l[n],by rw [idx_nat,List.getElem?_eq_getElem hn],rfl⟩ fun y hy=>?_)
    subst hy
    rw [ne_self,steps_eq hLx.made]
    refine Ok.sb ?_
    rw [hsx,ne_self]
    obtain ⟨⟨r1,x2⟩,hr,h2⟩:=hLx.step
    have hpre:Pre x x2:=pre_of hr
    rcases h2 with ⟨h3,_⟩ | ⟨_,h4,h5,h6⟩
    ·rw [hf] at h3;cases h3
    dsimp only at h4 h5 h6
    subst h4
    rw [hr]
    refine Ok.sb ?_
    dsimp only
    rw [ne_self]
    refine Ok.bind (stack_len h5) fun q hq=>?_
    obtain ⟨st,x3⟩:=q
    obtain ⟨hq1,hq2,_⟩:=hq
    dsimp only at hq1 hq2 ⊢
    subst hq1
    rw [decide_eq_false (by omega)]
    refine Ok.cond (fun _=>?_) fun h=>(by cases h)
    rw [lines_eq h5.made]
    refine Ok.sb ?_
    have hle:=hpre.length_le
    rw [decide_eq_false (by omega)]
    refine Ok.cond (fun _=>Ok.sb (Ok.some ⟨x3,?_,h5,by rw [h6,hsx];omega,hpre⟩)) fun h=>(by cases h)
    have:=h5.ln.1
    rw [decide_eq_false (by omega)]
   ·obtain ⟨x',rfl,hL',hs',hpre⟩:=hq
    refine Ok.cond (fun h=>by cases h) fun _=>?_
    dsimp only
    have hl2:(mLines x').length≤2000:=hL'.ln.1
    refine Ok.bind (Q:=fun d=>d=Sum.inl (mLines x',x')) ?_ fun d hd=>?_
    ·refine Ok.loop (fun k (z:Int×(List (List Gl)×MT))=> ∃ j:Nat,j+k=(mLines x').length∧z.1=j∧z.2=((mLines x').take j,x')) (fun k z hz=>?_) ((mLines x').length - (mLines x).length) _ (by omega) ⟨(mLines x).length,by have:=hpre.length_le;omega,rfl,by rw [← List.prefix_iff_eq_take.1 hpre]⟩
     obtain ⟨c,z⟩:=z
     obtain ⟨j,hj,hc,hz⟩:=hz
     dsimp only at hc hz ⊢
     subst hc hz
     rw [lines_eq hL'.made]
     refine Ok.sb (Ok.ifs (fun hlt=>?_) fun hge=>Ok.inr ?_)
     ·have hlt:j<(mLines x').length:=by omega
      rw [line_val hL' hlt]
      refine Ok.sb (Ok.no (fun h=>h rfl) (Ok.bind (Ok.appE (by rw [List.length_take];simp only [List.length_cons,List.length_nil];omega)) fun t ht=>Ok.inl ⟨k - 1,by omega,j+1,by omega,wrapS (by omega),?_⟩))
      show (t,x')=_
      rw [ht,List.take_add_one,List.getElem?_eq_getElem hlt]
      rfl
     ·have:j=(mLines x').length:=by omega
      subst this
      rw [List.take_length]
    ·subst hd
     exact Ok.inl ⟨k - 1,by omega,n+1,by omega,wrapS (by omega),rfl,hL',hs'⟩
  ·have:(i:Int)=(l.length:Int):=by rw [← hsx,hs]
   exact Ok.no (by omega) (Ok.inr ⟨x,rfl,hLx,hh,hs,hd⟩)
 ·obtain ⟨m',rfl,hL',hh,hs,hd⟩:=hd
  have hln':=hL'.ln
  show Ok ((vm_Machine__Laid m').bind _) _
  refine Ok.bind (laid_val hL' hh) fun r28 hr28=>?_
  obtain ⟨d,e,x⟩:=r28
  obtain ⟨hr1,hr2⟩:=hr28
  dsimp only at hr1 hr2 ⊢
  obtain ⟨rfl,rfl⟩:=Prod.mk.inj hr1
  refine Ok.ends ?_
  rw [halted_eq hL'.made]
  refine Ok.sb ?_
  rw [hh]
  refine Ok.cond (fun _=>?_) fun h=>(by cases h)
  refine Ok.bind (stack_len hL') fun q hq=>?_
  obtain ⟨st,x3⟩:=q
  obtain ⟨hq1,_,hq2⟩:=hq
  dsimp only at hq1 hq2 ⊢
  subst hq1
  refine Ok.yes (by rw [hq2 hd];rfl) ?_
  obtain ⟨r,hr,h2⟩:=hL'.step
  rcases h2 with ⟨_,rfl⟩ | ⟨h3,_⟩
  case inr=>rw [hh] at h3;cases h3
  rw [hr]
  refine Ok.sb (Ok.yes rfl ?_)
  obtain ⟨⟨rk,x4⟩,hrun,k,hk1,hk2,hk3,_⟩:=run_ok hL' (a:=5) (by omega)
  dsimp only at hk1 hk3
  have hk0:k=0:=by
   cases k with
   | zero=>rfl
   | succ k=>rw [iterS_halted hL' hh k] at hk3;cases hk3
  subst hk0 hk1
  injection hk3 with hk3
  subst hk3
  have hrun:vm_run x3 (5:Int)=some (((0:Nat):Int),x3):=hrun
  dsimp only
  rw [hrun]
  refine Ok.bind (Q:=(((((0:Nat):Int),x3):Int×MT)= ·)) (Ok.sb (Ok.some rfl)) fun q hq=>?_
  subst hq
  refine Ok.yes (by rfl) ?_
  dsimp only
  rw [steps_eq hL'.made]
  refine Ok.sb (Ok.yes hs (Ok.yes rfl ?_))
  rw [hr2]
  exact Ok.ends (sameAll_ok _ (by have:=hln'.1;omega) fun y hy=>by have:=hln'.2 y hy;omega)
end Go.Fn
/- What the world holds lasts. -/
namespace Go.Fn
open Go Go.Lf Go.Proofs Go.Shelf Go.RowKit
theorem tabs_below {w w':World} (h:Lib.Utf8Tabs 0 1 w) (hb:Below w.heap.size w w'):Lib.Utf8Tabs 0 1 w':=by
 have key: ∀ (g o:Nat) (v:Value),w.cell? ⟨g,o,none⟩=some v→w'.cell? ⟨g,o,none⟩=some v:=fun g o v hv=>by
  have hlt:g<w.heap.size:=by
   rcases Nat.lt_or_ge g w.heap.size with h1 | h1
   ·exact h1
   ·simp [World.cell?,Array.getElem?_eq_none h1] at hv
  obtain ⟨_,_,_,_,h5⟩:=hb
  have:=h5 g hlt
  unfold World.cell? at hv ⊢
  rw [this]
  exact hv
 exact ⟨fun c hc=>key _ _ _ (h.1 c hc),fun i hi=>⟨key _ _ _ (h.2 i hi).1,key _ _ _ (h.2 i hi).2⟩⟩
end Go.Fn
/-
  From a function's entry to a row's statement: the arguments are opened, nothing old has turned, so all reads as before.
-/
namespace Go.Lf
open Go Go.Eng Go.RowKit Go.ChangeShapes Go.WideShapes Go.ChangeMaps Go.ChangeAt
section
variable {H:Type} {enc:TypeId×Value→H} {P:Program}
def allRead (P:Program) (ts:List TypeId):Bool:=ts.all fun t=>P.readableRec t && decide (t<P.types.size)
theorem trodAll_stay (hl:laidOutB P=true) {W W':World} (hb:Below W.heap.size W W'): ∀ (ts:List TypeId) (vs:List Value) (ds:List (DataW H)) (ps:List MemPlace),allRead P ts=true→
  DataW.TrodAll enc P W 0 (fun _=>true) true ts vs ds ps→(∀ x∈ps,x.block<W.heap.size)→DataW.TrodAll enc P W' 0 (fun b=>decide (b<W.heap.size)) true ts vs ds ps
 | [],[],[],_,_,h,_=>h
 | [],_::_,_,_,_,h,_=>h.elim
 | [],[],_::_,_,_,h,_=>h.elim
 | _::_,[],_,_,_,h,_=>h.elim
 | _::_,_::_,[],_,_,h,_=>h.elim
 | t::ts,v::vs,d::ds,ps,hr,h,hlt=>by
  obtain ⟨p,q,h1,h2,rfl⟩:=h
  simp only [allRead,List.all_cons,Bool.and_eq_true,decide_eq_true_eq] at hr
  exact ⟨p,q,Below.trod hl hr.1.1 hr.1.2 h1 hb (fun x hx=>hlt x (List.mem_append_left _ hx)),trodAll_stay hl hb ts vs ds q hr.2 h2 (fun x hx=>hlt x (List.mem_append_right _ hx)),rfl⟩
theorem law_post {f:Func} {s:ChangeSpec} {W W':World} {args:Array Value} {ds gs:List (DataW H)} {before:List MemPlace} {tb:TypeId} (hl:laidOutB P=true) (hr:allRead P f.params.toList=true) (hv:s.vars=[])
  (hres:f.resultTypes= #[tb]) (htb:P.underlying tb=some .bool) (hW:DataW.Whole enc P f.params.toList s.vars false W args.toList ds gs before)
  (hs:s.fn H (ds++gs)={ results:=[.lit (.bool true)],args:=ds,vars:=[] }) (hb:Below W.heap.size W W'):s.post enc P f false true false false W args (.bool true) W':=by
 have hlt: ∀ p∈before,p.block<W.heap.size:=fun p hp=>hW.lt p hp
 have hW0:=hW
 obtain ⟨p,q,hA,hV,hps,_,_⟩:=hW
 rw [hv] at hV
 obtain ⟨rfl,rfl⟩:=trodVars_none hV
 refine ⟨ds,[],before,[],p,[],hW0,?_,?_,?_,hb.frame _,fun h=>by cases h⟩
 ·rw [hs,hres]
  exact trodAll_mk1 (shut_bool htb true)
 ·rw [hs]
  exact trodAll_stay hl hb _ _ _ _ hr hA (fun x hx=>hlt x (by rw [hps];exact List.mem_append_left _ hx))
 ·rw [hs,hv]
  rfl
end
def start (W:World):Cx:=⟨W,[],fun _=>none⟩
def Lasts (W:World) (I:World→Prop):Prop:= ∀ w',Below W.heap.size W w'→I w'
theorem Lasts.and {W:World} {I J:World→Prop} (h:Lasts W I) (k:Lasts W J):Lasts W (fun w=>I w∧J w):=fun w' hb=>⟨h w' hb,k w' hb⟩
theorem Lasts.of {W:World} {p:Prop} (h:p):Lasts W (fun _=>p):=fun _ _=>h
theorem hb_start {W:World} {I:World→Prop} (h:Lasts W I):Hb (start W) (start W).w0 [] I:=
 ⟨⟨rfl,rfl,rfl,Nat.le_refl _,fun _ _ _=>rfl,fun c hc=>absurd hc (by simp [start]),fun c hc=>absurd hc (by simp [start]),fun c hc=>absurd hc (by simp),fun c hc=>absurd hc (by simp),List.Pairwise.nil,fun k m hk=>by cases hk⟩,
  fun w' hx=>h w' ⟨hx.os,hx.tape,hx.output,hx.size,fun k hk=>hx.block k hk rfl (fun c hc=>absurd hc (by simp))⟩⟩
theorem cell_lt {W:World} {a:Addr} {v:Value} (h:W.cell? a=some v):a.block<W.heap.size:=by
 rcases Nat.lt_or_ge a.block W.heap.size with h1 | h1
 ·exact h1
 ·simp [World.cell?,Array.getElem?_eq_none h1] at h
def phiOf (W:World):Phi:=⟨fun a=>W.cell? a,fun _=>False⟩
theorem lasts_agree (W:World):Lasts W (Agree (phiOf W)):=fun _ hb=>⟨fun _ _ h=>(hb.cell (cell_lt h)).trans h,fun _ h=>h.elim⟩
theorem lasts_var {P:Program} {W:World} {name:String} {cs:Array Value} (h:W.var? P name=some cs):Lasts W (fun w=>w.var? P name=some cs):=fun w' hb=>by
 unfold World.var? at*
 cases hg:P.globalNamed name with
 | none=>rw [hg] at h;simp at h
 | some g=>
  rw [hg] at h
  simp only [Option.bind_some] at*
  by_cases hlt:g<W.heap.size
  ·rw [hb.block g hlt];exact h
  ·rw [Array.getElem?_eq_none (by omega)] at h;simp at h
theorem law_calls {P:Program} {G:World→Prop} {f:Nat} {e:Entry} {z:prodT (e.ps.map Par.ty)} {W:World} {vals:List Value} (he:EntryOk P G f e) (hr:e.rs=[.bool]) (_ho:outs e.ps=[]) {r:prodT (e.rs++outs e.ps)} (hz:e.f z=some r) (ht:unProd (e.rs++outs e.ps) r=[⟨.bool,true⟩])
  (ha:ArgsR (phiOf W) e.ps z vals [] []) (hG:Lasts W G):Calls P f vals.toArray W fun e W'=>e= .returned (.bool true)∧Below W.heap.size W W':=by
 refine Calls.mono (he.ok z r hz (start W) (phiOf W) vals [] [] ha (hb_start (hG.and (lasts_agree W)))) ?_
 rintro x w' ⟨v,φ',h1,h2,rfl,_,hb,⟨vs,hv,rfl⟩,_⟩
 rw [ht,hr] at hv
 refine ⟨?_,hb.hp.os,hb.hp.tape,hb.hp.output,hb.hp.size,fun k hk=>hb.hp.keep k hk (by simp [start,free])⟩
 cases hv with
 | cons a1 a2 a3=>
  cases a3
  obtain ⟨rfl,_⟩:=a2
  rfl
section
variable {H:Type} (enc:TypeId×Value→H) (P:Program) (W:World)
def Light (P:Program) (t:TypeId) (d:DataW H):Prop:= ∀ x∈d.weights P t,x≤reachBytes
end
def rnd (o a:Nat):Nat:=(o+a - 1) / a*a
def Ty.aln:Ty→Nat
 | .int k=>k.bits / 8
 | .bool=>1
 | .unit=>1
 | .st t=>t.aln
 | .pr a b=>max a.aln b.aln
 | _=>8
mutual
def Ty.byt:Ty→Nat
 | .int k=>k.bits / 8
 | .bool=>1
 | .str=>16
 | .sl _=>24
 | .rw _ _=>24
 | .mr _ _=>24
 | .it=>8
 | .itd=>8
 | .dead _ _=>24
 | .eb _ _=>16
 | .op _=>8
 | .bx _ _=>8
 | .on _=>8
 | .fl _=>8
 | .bo _ _=>8
 | .bn=>8
 | .tr=>16
 | .ml _ _ _=>24
 | .ptr _=>8
 | .st t=>rnd (t.end_ 0) t.aln
 | _=>0
def Ty.end_:Ty→Nat→Nat
 | .pr a b,o=>b.end_ (rnd o a.aln+a.byt)
 | _,o=>o
end
def Wf:(t:Ty)→t.den→Prop
 | .int k,x=>k.min≤x∧x≤k.max
 | .str,x=>List.length x≤140737488351232
 | .sl t,l=>List.length l*t.byt≤140737488351232∧ ∀ x∈(l:List t.den),Wf t x
 | .st t,x=>Wf t x
 | .pr a b,x=>Wf a x.1∧Wf b x.2
 | _,_=>True
def Sz:(t:Ty)→t.den→Nat
 | .str,x=>List.length x
 | .sl t,l=>((l:List t.den).map (Sz t)).sum+List.length l
 | .st t,x=>Sz t x
 | .pr a b,x=>Sz a x.1+Sz b x.2
 | _,_=>0
mutual
def bulk {H:Type}:DataW H→Nat
 | .lit (.string b)=>b.length
 | .slice es _=>bulkAll es+es.length
 | .agg ps=>bulkAll ps
 | _=>0
def bulkAll {H:Type}:List (DataW H)→Nat
 | []=>0
 | d::r=>bulk d+bulkAll r
end
theorem bulkAll_map {H:Type}: ∀ l:List (DataW H),bulkAll l=(l.map bulk).sum
 | []=>rfl
 | d::r=>by
  rw [bulkAll,bulkAll_map r];rfl
theorem sum_le2 {α β:Type} {f:α→Nat} {g:β→Nat}: ∀ {l:List α} {m:List β},l.length=m.length→(∀ (i:Nat) x y,l[i]? =some x→m[i]? =some y→f x≤g y)→(l.map f).sum≤(m.map g).sum
 | [],[],_,_=>Nat.le_refl _
 | [],_::_,h,_=>by simp at h
 | _::_,[],h,_=>by simp at h
 | x::l,y::m,h,hR=>by
  have h1:=hR 0 x y rfl rfl
  have h2:=sum_le2 (l:=l) (m:=m) (by simpa using h) fun i a b ha hb=>hR (i+1) a b (by simpa using ha) (by simpa using hb)
  simp only [List.map_cons,List.sum_cons]
  omega
def opB (P:Program):Ty→TypeId⊕(List Field×Nat)→Bool
 | .int k, .inl t=>match P.underlying t with | some (.int k')=>decide (k=k') | _=>false
 | .bool, .inl t=>match P.underlying t with | some .bool=>true | _=>false
 | .str, .inl t=>match P.underlying t with | some .string=>true | _=>false
 | .sl a, .inl t=>match P.underlying t with | some (.slice e)=>Nat.beq (P.cellsOf e) a.size && Nat.blt 0 a.size && Nat.beq (P.bytesOf e) a.byt && opB P a (.inl e) | _=>false
 | .st c, .inl t=>match P.underlying t with | some (.struct fs)=>Nat.beq (P.cellsOf t) c.size && opB P c (.inr (fs.toList,0)) | _=>false
 | .pr a b, .inr (f::fs,o)=>Nat.beq f.offset o && Nat.beq (P.cellsOf f.type) a.size && opB P a (.inl f.type) && opB P b (.inr (fs,o+a.size))
 | .unit, .inr ([],_)=>true
 | _,_=>false
section
variable {H:Type} (enc:TypeId×Value→H) (P:Program) (W:World)
def OpnT (t:TypeId) (a:Ty):Prop:=
 ∀ fuel cs d ps,DataW.trod enc P W 0 (fun _=>true) true fuel t cs=some (d,ps)→Light P t d→ ∃ x:a.den,Rp (phiOf W) a x cs []∧Wf a x∧Sz a x≤bulk d
def OpnF (size o:Nat) (fs:List Field) (a:Ty):Prop:=
 ∀ (n:Nat) (cs:List Value) (xs:List (DataW H×List MemPlace)),cs.length=size→xs.length=fs.length→
  (∀ (i:Nat) (f:Field),fs[i]? =some f→DataW.trod enc P W 0 (fun _=>true) true n f.type ((cs.drop f.offset).take (P.cellsOf f.type))=xs[i]?)→
  (∀ (i:Nat) (f:Field) y,fs[i]? =some f→xs[i]? =some y→Light P f.type y.1)→o+a.size=size→ ∃ x:a.den,Rp (phiOf W) a x (cs.drop o) []∧Wf a x∧Sz a x≤bulkAll (xs.map (·.1))
end
section
variable {H:Type} {enc:TypeId×Value→H} {P:Program} {W:World} {t e:TypeId}
theorem light_slice {es sp:List (DataW H)} (ht:P.underlying t=some (.slice e)) (hl:Light P t (.slice es sp)):es.length*P.bytesOf e≤140737488351232∧ ∀ d∈es,Light P e d:=by
 unfold Light at hl
 simp only [DataW.weights,ht] at hl
 have h7:reachBytes=140737488351232:=by decide
 constructor
 ·have h1:=hl _ (List.mem_cons_self ..)
  have h2:es.length*P.bytesOf e≤(es.length+sp.length)*P.bytesOf e:=Nat.mul_le_mul_right _ (by omega)
  omega
 ·intro d hd x hx
  refine hl x (List.mem_cons_of_mem _ (List.mem_append_left _ ?_))
  clear hl
  induction es with
  | nil=>cases hd
  | cons a r ih=>
   simp only [DataW.weightsAll]
   rcases List.mem_cons.1 hd with rfl | h
   ·exact List.mem_append_left _ hx
   ·exact List.mem_append_right _ (ih h)
theorem light_agg {fs:Array Field} {ds:List (DataW H)} (ht:P.underlying t=some (.struct fs)) (hl:Light P t (.agg ds)): ∀ (i:Nat) (f:Field) y,fs.toList[i]? =some f→ds[i]? =some y→Light P f.type y:=by
 unfold Light at hl
 simp only [DataW.weights,ht] at hl
 have key: ∀ (l:List Field) (ds:List (DataW H)),(∀ x∈DataW.weightsEach P (l.map (·.type)) ds,x≤reachBytes)→ ∀ (i:Nat) (f:Field) y,l[i]? =some f→ds[i]? =some y→Light P f.type y:=by
  intro l
  induction l with
  | nil=>intro ds _ i f y h;simp at h
  | cons g r ih=>
   intro ds hl i f y hf hy
   cases ds with
   | nil=>simp at hy
   | cons d q=>
    simp only [List.map_cons,DataW.weightsEach] at hl
    cases i with
    | zero=>
     simp at hf hy
     subst hf hy
     exact fun x hx=>hl x (List.mem_append_left _ hx)
    | succ i=>exact ih q (fun x hx=>hl x (List.mem_append_right _ hx)) i f y (by simpa using hf) (by simpa using hy)
 exact key fs.toList ds hl
theorem list_choose {α:Type} {p:Nat→α→Prop}: ∀ n,(∀ i,i<n→ ∃ x,p i x)→ ∃ l:List α,l.length=n∧ ∀ i x,l[i]? =some x→p i x
 | 0,_=>⟨[],rfl,fun i x h=>by simp at h⟩
 | n+1,h=>by
  obtain ⟨l,h1,h2⟩:=list_choose n (fun i hi=>h i (by omega))
  obtain ⟨x,hx⟩:=h n (by omega)
  refine ⟨l++[x],by simp [h1],fun i y hy=>?_⟩
  by_cases hi:i<n
  ·rw [List.getElem?_append_left (by omega)] at hy;exact h2 i y hy
  ·rw [List.getElem?_append_right (by omega)] at hy
   have h3:i=n:=by
    have:=(List.getElem?_eq_some_iff.1 hy).1
    simp at this;omega
   subst h3
   rw [h1,Nat.sub_self] at hy
   simp at hy
   subst hy;exact hx
theorem all2_of {α β:Type} {R:α→β→Prop}: ∀ {l:List α} {m:List β},l.length=m.length→(∀ (i:Nat) x y,l[i]? =some x→m[i]? =some y→R x y)→All2 R l m
 | [],[],_,_=> .nil
 | [],_::_,h,_=>by simp at h
 | _::_,[],h,_=>by simp at h
 | x::l,y::m,h,hR=> .cons (hR 0 x y rfl rfl) (all2_of (by simpa using h) fun i a b ha hb=>hR (i+1) a b (by simpa using ha) (by simpa using hb))
theorem flat_at {s:Nat} (hs:0<s): ∀ (l:List (List Value)),(∀ c∈l,c.length=s)→ ∀ (j:Nat) (v:Value),l.flatten[j]? =some v→ ∃ i k c,j=i*s+k∧l[i]? =some c∧c[k]? =some v
 | [],_,j,v,h=>by simp at h
 | d::r,hl,j,v,h=>by
  have h1:=hl d List.mem_cons_self
  rw [List.flatten_cons] at h
  by_cases hj:j<s
  ·rw [List.getElem?_append_left (by omega)] at h
   exact ⟨0,j,d,by omega,rfl,h⟩
  ·rw [List.getElem?_append_right (by omega),h1] at h
   obtain ⟨i,k,c,e1,e2,e3⟩:=flat_at hs r (fun c hc=>hl c (List.mem_cons_of_mem _ hc)) (j - s) v h
   exact ⟨i+1,k,c,by rw [Nat.succ_mul];omega,by simpa using e2,e3⟩
theorem opn_ok: ∀ (a:Ty),(∀ t,opB P a (.inl t)=true→OpnT enc P W t a)∧(∀ fs o size,opB P a (.inr (fs,o))=true→OpnF enc P W size o fs a)
 | .int k=>by
  refine ⟨fun t h=>?_,fun fs o size h=>by cases fs<;>simp [opB] at h⟩
  ·skip
   unfold opB at h
   split at h
   ·rename_i k' hu
    have h:=of_decide_eq_true h
    subst h
    intro fuel cs d ps ht _
    obtain ⟨n,h1,h2,h3⟩:=DataW.trod_int hu ht
    exact ⟨n,⟨h1,rfl⟩,by
     have h4:k.min≤n∧n≤k.max:=by simpa [Lit.wf] using h3
     exact ⟨h4,Nat.zero_le _⟩⟩
   ·cases h
 | .bool=>by
  refine ⟨fun t h=>?_,fun fs o size h=>by cases fs<;>simp [opB] at h⟩
  ·skip
   unfold opB at h
   split at h
   ·rename_i hu
    intro fuel cs d ps ht _
    cases fuel with
    | zero=>simp [DataW.trod] at ht
    | succ n=>
     unfold DataW.trod at ht
     rw [hu] at ht
     split at ht<;>simp_all [Rp,Wf,Sz]
   ·cases h
 | .str=>by
  refine ⟨fun t h=>?_,fun fs o size h=>by cases fs<;>simp [opB] at h⟩
  ·skip
   unfold opB at h
   split at h
   ·rename_i hu
    intro fuel cs d ps ht hl
    obtain ⟨s,h1,h2,h3⟩:=DataW.trod_string hu ht
    injection h2 with h4 h5
    subst h4
    refine ⟨s.data.toList,⟨by rw [h1],rfl⟩,?_⟩
    have h6:=hl s.data.toList.length (by simp [DataW.weights])
    have h7:reachBytes=140737488351232:=by decide
    refine ⟨?_,Nat.le_refl _⟩
    show s.data.toList.length≤_
    omega
   ·cases h
 | .unit=>⟨fun t h=>by simp [opB] at h,fun fs o size h=>by
   cases fs with
   | cons f r=>simp [opB] at h
   | nil=>
    intro n cs xs hs _ _ _ hz
    have:o=cs.length:=by rw [hs];exact hz
    exact ⟨(),⟨List.drop_eq_nil_of_le (by omega),rfl⟩,trivial,Nat.zero_le _⟩⟩
 | .sl a=>by
  refine ⟨fun t h=>?_,fun fs o size h=>by cases fs<;>simp [opB] at h⟩
  ·skip
   unfold opB at h
   split at h
   case h_2=>cases h
   case h_1 e hu=>
   simp only [Bool.and_eq_true] at h
   obtain ⟨⟨⟨h1,h2⟩,h3⟩,h4⟩:=h
   have hn:=Nat.eq_of_beq_eq_true h1
   have h0:0<a.size:=by simpa [Nat.blt_eq] using h2
   have hb:=Nat.eq_of_beq_eq_true h3
   have he:=(opn_ok a).1 e h4
   intro fuel cs d ps hd hl
   rcases DataW.trod_slice hu hd with ⟨g1,g2⟩ | ⟨ad,len,cap,elems,rest,m,_,rfl,hx,_,hlc,_,hlen,hel,_,_⟩
   ·exact ⟨([]:List a.den),⟨none,0,[],g1,Nat.le_refl _, .nil,fun hn=>absurd hn (by simp),rfl⟩,by simp [Wf],Nat.zero_le _⟩
   ·injection hx with hx1 hx2
    subst hx1
    obtain ⟨hl1,hl2⟩:=light_slice hu hl
    rw [List.length_map,hlen,hb] at hl1
    have each: ∀ i,i<len→ ∃ q:a.den×List Value,Rp (phiOf W) a q.1 q.2 []∧Wf a q.1∧(∀ k u,q.2[k]? =some u→W.cell? (ad.add (i*a.size+k))=some u)∧ ∀ y,elems[i]? =some y→Sz a q.1≤bulk y.1:=by
     intro i hi
     obtain ⟨y,hy⟩: ∃ y,elems[i]? =some y:=⟨_,List.getElem?_eq_getElem (by omega)⟩
     have h3:=hel i hi
     rw [hy,hn,Option.bind_eq_some_iff] at h3
     obtain ⟨cs',h4,h5⟩:=h3
     obtain ⟨y1,y2⟩:=y
     obtain ⟨x,h6,h7,h7b⟩:=he m cs' y1 y2 h5 (hl2 y1 (List.mem_map.2 ⟨(y1,y2),List.mem_of_getElem? hy,rfl⟩))
     obtain ⟨_,h8,h9⟩:=World.cells?_some h4
     refine ⟨(x,cs'),h6,h7,fun k u hu=>?_,fun y' hy'=>(by rw [hy] at hy';injection hy' with hy';rw [← hy'];exact h7b)⟩
     have hk:k<a.size:=by rw [← h6.len];exact (List.getElem?_eq_some_iff.1 hu).1
     have:=h9 k hk
     rw [hu,add_add'] at this
     exact this
    obtain ⟨l,h10,h11⟩:=list_choose len each
    have hll:(l.map (·.1)).length=len:=by rw [List.length_map,h10]
    have hall:All2 (fun x cs=>Rp (phiOf W) a x cs []) (l.map (·.1)) (l.map (·.2)):=all2_of (by simp) fun i x y hx hy=>by
     rw [List.getElem?_map] at hx hy
     cases hq:l[i]? with
     | none=>rw [hq] at hx;cases hx
     | some q=>
      rw [hq] at hx hy
      simp only [Option.map_some,Option.some.injEq] at hx hy
      subst hx hy
      exact (h11 i q hq).1
    refine ⟨l.map (·.1),⟨some ad,cap,l.map (·.2),?_,?_,hall,fun _=>⟨ad,rfl,fun j v hv=>?_⟩,rfl⟩,⟨?_,fun x hx=>?_⟩,?_⟩
    ·show [Value.slice (some ad) len cap]=[Value.slice (some ad) (l.map (·.1)).length cap]
     rw [hll]
    ·show (l.map (·.1)).length≤cap
     omega
    ·obtain ⟨i,k,c,rfl,e2,e3⟩:=flat_at h0 (l.map (·.2)) (fun c hc=>by
      obtain ⟨q,hq,rfl⟩:=List.mem_map.1 hc
      obtain ⟨i,hi⟩:=List.getElem?_of_mem hq
      exact (h11 i q hi).1.len) j v hv
     rw [List.getElem?_map] at e2
     cases hq:l[i]? with
     | none=>rw [hq] at e2;cases e2
     | some q=>
      rw [hq] at e2
      simp only [Option.map_some,Option.some.injEq] at e2
      subst e2
      exact (h11 i q hq).2.2.1 k v e3
    ·show (l.map (·.1)).length*a.byt≤_
     rw [hll];exact hl1
    ·obtain ⟨q,hq,rfl⟩:=List.mem_map.1 hx
     obtain ⟨i,hi⟩:=List.getElem?_of_mem hq
     exact (h11 i q hi).2.1
    ·show ((l.map (·.1)).map (Sz a)).sum+(l.map (·.1)).length≤bulkAll (elems.map (·.1))+(elems.map (·.1)).length
     rw [bulkAll_map,hll,List.length_map,hlen]
     refine Nat.add_le_add_right (sum_le2 (by rw [hll,List.length_map,hlen]) fun i x y hx hy=>?_) _
     rw [List.getElem?_map] at hx hy
     cases hq:l[i]? with
     | none=>rw [hq] at hx;cases hx
     | some q=>
      cases he2:elems[i]? with
      | none=>rw [he2] at hy;cases hy
      | some z=>
       rw [hq] at hx
       rw [he2] at hy
       simp only [Option.map_some,Option.some.injEq] at hx hy
       subst hx hy
       exact (h11 i q hq).2.2.2 z he2
 | .st c=>by
  refine ⟨fun t h=>?_,fun fs o size h=>by cases fs<;>simp [opB] at h⟩
  ·skip
   unfold opB at h
   split at h
   case h_2=>cases h
   case h_1 fs hu=>
   simp only [Bool.and_eq_true] at h
   have hs:=Nat.eq_of_beq_eq_true h.1
   have hF:=(opn_ok c).2 fs.toList 0 c.size h.2
   intro fuel cs d ps hd hl
   obtain ⟨xs,n,_,hx,hcl,hxl,hf⟩:=DataW.trod_struct hu hd
   injection hx with hx1 hx2
   subst hx1
   have hla:=light_agg hu hl
   obtain ⟨x,h1,h2,h3⟩:=hF n cs xs (by rw [hcl,hs]) (by simpa using hxl) (fun i f hi=>hf i f (by simpa using hi)) (fun i f y hi hy=>hla i f y.1 hi (by simp [hy])) (by simp)
   have h1:Rp (phiOf W) c x cs []:=by simpa using h1
   exact ⟨x,h1,h2,h3⟩
 | .pr a b=>⟨fun t h=>by simp [opB] at h,fun fs o size h=>by
   cases fs with
   | nil=>simp [opB] at h
   | cons f fs=>
    unfold opB at h
    simp only [Bool.and_eq_true] at h
    obtain ⟨⟨⟨h1,h2⟩,h3⟩,h4⟩:=h
    have ho:=Nat.eq_of_beq_eq_true h1
    have hm:=Nat.eq_of_beq_eq_true h2
    have ha:=(opn_ok a).1 _ h3
    have hb:=(opn_ok b).2 fs (o+a.size) size h4
    intro n cs xs hs hxl hx hl hz
    cases xs with
    | nil=>simp at hxl
    | cons y ys=>
     have h3:=hx 0 f rfl
     rw [ho,hm] at h3
     obtain ⟨y1,y2⟩:=y
     obtain ⟨x,g1,g2,g2b⟩:=ha n _ y1 y2 h3 (hl 0 f (y1,y2) rfl rfl)
     obtain ⟨z,g3,g4,g4b⟩:=hb n cs ys hs (by simpa using hxl) (fun i g hg=>by simpa using hx (i+1) g (by simpa using hg)) (fun i g y hg hy=>hl (i+1) g y (by simpa using hg) (by simpa using hy)) (by rw [← hz];simp [Ty.size];omega)
     refine ⟨(x,z),⟨_,_,[],[],?_,rfl,g1,g3⟩,⟨g2,g4⟩,Nat.add_le_add g2b g4b⟩
     rw [← List.drop_drop,List.take_append_drop]⟩
 | .it=>⟨fun t h=>by simp [opB] at h,fun fs o size h=>by cases fs<;>simp [opB] at h⟩
 | .itd=>⟨fun t h=>by simp [opB] at h,fun fs o size h=>by cases fs<;>simp [opB] at h⟩
 | .dead _ _=>⟨fun t h=>by simp [opB] at h,fun fs o size h=>by cases fs<;>simp [opB] at h⟩
 | .rw _ _=>⟨fun t h=>by simp [opB] at h,fun fs o size h=>by cases fs<;>simp [opB] at h⟩
 | .mr _ _=>⟨fun t h=>by simp [opB] at h,fun fs o size h=>by cases fs<;>simp [opB] at h⟩
 | .ptr _=>⟨fun t h=>by simp [opB] at h,fun fs o size h=>by cases fs<;>simp [opB] at h⟩
 | .eb _ _=>⟨fun t h=>by simp [opB] at h,fun fs o size h=>by cases fs<;>simp [opB] at h⟩
 | .op _=>⟨fun t h=>by simp [opB] at h,fun fs o size h=>by cases fs<;>simp [opB] at h⟩
 | .bx _ _=>⟨fun t h=>by simp [opB] at h,fun fs o size h=>by cases fs<;>simp [opB] at h⟩
 | .bo _ _=>⟨fun t h=>by simp [opB] at h,fun fs o size h=>by cases fs<;>simp [opB] at h⟩
 | .bn=>⟨fun t h=>by simp [opB] at h,fun fs o size h=>by cases fs<;>simp [opB] at h⟩
 | .tr=>⟨fun t h=>by simp [opB] at h,fun fs o size h=>by cases fs<;>simp [opB] at h⟩
 | .ml _ _ _=>⟨fun t h=>by simp [opB] at h,fun fs o size h=>by cases fs<;>simp [opB] at h⟩
 | .on _=>⟨fun t h=>by simp [opB] at h,fun fs o size h=>by cases fs<;>simp [opB] at h⟩
 | .fl _=>⟨fun t h=>by simp [opB] at h,fun fs o size h=>by cases fs<;>simp [opB] at h⟩
theorem light_arg {ts:List TypeId} {ds:List (DataW H)} {j:Nat} {t:TypeId} {d:DataW H} (hz:(DataW.weightsEach P ts ds).all (· ≤reachBytes)=true) (ht:ts[j]? =some t) (hd:ds[j]? =some d):Light P t d:=by
 intro x hx
 have h1: ∀ y∈DataW.weightsEach P ts ds,y≤reachBytes:=fun y hy=>by simpa using List.all_eq_true.1 hz y hy
 clear hz
 induction ts generalizing ds j with
 | nil=>simp at ht
 | cons a r ih=>
  cases ds with
  | nil=>simp at hd
  | cons b q=>
   simp only [DataW.weightsEach] at h1
   cases j with
   | zero=>
    simp at ht hd
    subst ht hd
    exact h1 x (List.mem_append_left _ hx)
   | succ j=>exact ih (by simpa using ht) (by simpa using hd) (fun y hy=>h1 y (List.mem_append_right _ hy))
theorem open_argB {a:Ty} {v:Value} {d:DataW H} {ps:List MemPlace} {base:Nat} (ha:opB P a (.inl t)=true) (hv:Value.okWide P W .any base t v) (h:DataW.Trod enc P W 0 (fun _=>true) true t v d ps) (hl:Light P t d):
  ∃ (x:a.den) (cs:List Value),a.top=true∧v=sv a cs∧Rp (phiOf W) a x cs []∧Wf a x∧Sz a x≤bulk d:=by
 obtain ⟨fuel,hf⟩:=h
 obtain ⟨x,h1,h2,h2b⟩:=(opn_ok (enc:=enc) (W:=W) a).1 t ha fuel _ d ps hf hl
 refine ⟨x,v.cells.toList,?_,?_,h1,h2,h2b⟩
 ·cases a<;>first | rfl | (simp [opB] at ha;done)
 ·cases a<;>first | (simp [opB] at ha;done) | skip
  all_goals unfold opB at ha
  all_goals split at ha<;>first | (cases ha;done) | skip
  all_goals rename_i hu
  ·obtain ⟨n,rfl⟩:=okWide_int hu hv;rfl
  ·obtain ⟨n,rfl⟩:=okWide_bool hu hv;rfl
  ·obtain ⟨n,rfl⟩:=okWide_string hu hv;rfl
  ·obtain ⟨A,n,c,rfl⟩:=okWide_slice hu hv;rfl
  ·obtain ⟨cs,rfl,_⟩:=okWide_struct hu hv;rfl
theorem open_arg {a:Ty} {v:Value} {d:DataW H} {ps:List MemPlace} {base:Nat} (ha:opB P a (.inl t)=true) (hv:Value.okWide P W .any base t v) (h:DataW.Trod enc P W 0 (fun _=>true) true t v d ps) (hl:Light P t d):
  ∃ (x:a.den) (cs:List Value),a.top=true∧v=sv a cs∧Rp (phiOf W) a x cs []∧Wf a x:=
 let ⟨x,cs,h1,h2,h3,h4,_⟩:=open_argB ha hv h hl
 ⟨x,cs,h1,h2,h3,h4⟩
end
end Go.Lf
