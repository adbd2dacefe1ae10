/- What passes the check may run: instructions as a walk over what is open. -/
import Derived.Test.YtabfljbbjpfcgaaDoorQAE
import Derived.Test.YtabfljbbjpfcgaaDoorProg
import Derived.Test.YtabfljbbjpfcgaaDoorQAD
import Derived.KernelRfl
import Derived.Lib.ItoaLen
import Derived.Carry
import Derived.ChangeSame
import Derived.ChangeMaps5
import Derived.SizedLaws
import Derived.ChangeSlices
import Derived.SliceStrings
import Derived.ProofKit
import Derived.OpenShut
import Derived.Deep.DeepHandedRow
import Derived.Lib.LaidTab
namespace Go.Fn
open Go Go.Lf
section
variable {α:Type}
def kso (l:List (Int×α)) (d:Nat):List Int:=((l.map (·.1)).take d).reverse
theorem kso_len {l:List (Int×α)} {d:Nat} (h:d≤l.length):(kso l d).length=d:=by
 unfold kso
 rw [List.length_reverse,List.length_take,List.length_map];omega
theorem kso_push {l:List (Int×α)} {d:Nat} {f:Int×α} (h:d<l.length):kso (l.set d f) (d+1)=f.1::kso l d:=by
 unfold kso
 rw [List.map_set,List.take_add_one,List.take_set_of_le (Nat.le_refl _),List.getElem?_set_self (by rw [List.length_map];exact h)]
 simp
theorem kso_pop {l:List (Int×α)} {d:Nat} (h:d<l.length):kso l (d+1)=l[d].1::kso l d:=by
 unfold kso
 rw [List.take_add_one,List.getElem?_map,List.getElem?_eq_getElem h]
 simp
theorem kso_keep {l:List (Int×α)} {d j:Nat} {f:Int×α} (hj:j<l.length) (h:f.1=l[j].1):kso (l.set j f) d=kso l d:=by
 unfold kso
 rw [List.map_set,h]
 congr 2
 exact List.ext_getElem? fun n=>by
  by_cases hn:j=n
  ·subst hn
   rw [List.getElem?_set_self (by rw [List.length_map];exact hj),List.getElem?_map,List.getElem?_eq_getElem hj]
   rfl
  ·rw [List.getElem?_set_ne hn]
theorem kso_cut {l:List (Int×α)} {d j:Nat} {f:Int×α} (h:d≤j):kso (l.set j f) d=kso l d:=by
 unfold kso
 rw [List.map_set,List.take_set_of_le h]
end
abbrev Cfr:Type:=Int×xT7
abbrev Cw:Type:=(((Int)×xT7)×xT130)×xT31
def cst (w:Cw):List Cfr:=arL xY35 32 w.1
def wks (w:Cw):List Int:=kso (cst w) w.2.1.toNat
theorem cst_len (w:Cw):(cst w).length=32:=arL_len
theorem cst_set (w:Cw) (j:Nat) (f:Cfr) (x:xT31):cst (arS xY35 32 w.1 j f,x)=(cst w).set j f:=arL_arS
theorem wks_congr {w w':Cw} (h1:w'.1=w.1) (h2:w'.2.1=w.2.1):wks w'=wks w:=by unfold wks cst;rw [h1,h2]
def LL (l:List Int):Prop:=l.length≤8∧ ∀ k∈l,k=10∨k=12
structure CI (w:Cw):Prop where
 d0:0≤w.2.1
 d32:w.2.1≤32
 sh:(w.2.2.1=1∧ ∃ M L,wks w=M++8::L∧(∀ k∈M,k=2∨k=3∨k=4)∧(M.length:Int)=w.2.2.2.1∧M.length≤16∧LL L)∨(w.2.2.1≠1∧w.2.2.2.1=0∧LL (wks w))
theorem CI.len {w:Cw} (h:CI w):((wks w).length:Int)=w.2.1:=by
 have:=h.d0
 have:=h.d32
 unfold wks
 rw [kso_len (by rw [cst_len];omega)]
 omega
theorem CI.le {w:Cw} (h:CI w):w.2.1≤25:=by
 have:=h.len
 rcases h.sh with ⟨_,M,L,h1,_,_,h4,h5,_⟩ | ⟨_,_,h5,_⟩
 ·rw [h1,List.length_append,List.length_cons] at this;omega
 ·omega
inductive KS:Int→List Int→List Int→Prop where
 | text {ks:List Int}:KS 1 ks ks
 | flat {k:Int} {ks:List Int}:k=6∨k=7→KS k ks ks
 | mark {k:Int} {ks:List Int}:k=2∨k=3∨k=4→ks.length<32→KS k ks (k::ks)
 | close {k:Int} {ks:List Int}:k≠10→k≠12→KS 5 (k::ks) ks
 | para {ks:List Int}:ks.length<32→KS 8 ks (8::ks)
 | done {ks:List Int}:KS 9 (8::ks) ks
 | list {ks:List Int}:ks.length<32→KS 10 ks (10::ks)
 | item {ks:List Int}:KS 11 (10::ks) (10::ks)
 | table {ks:List Int}:ks.length<32→KS 12 ks (12::ks)
 | row {ks:List Int}:KS 13 (12::ks) (12::ks)
 | fin {k:Int} {ks:List Int}:k=10∨k=12→KS 14 (k::ks) ks
theorem cpush_ok {w:Cw} {f:Cfr} (h0:0≤w.2.1) (h1:w.2.1<32):Ok (check_walk__push w f) fun r=>r=(arS xY35 32 w.1 w.2.1.toNat f,(w.2.1+1,w.2.2))∧wks r=f.1::wks w:=by
 unfold check_walk__push
 have e:IntKind.wrap .i64 (w.2.1+1)=w.2.1+1:=wrap64 (by omega) (by omega)
 refine Ok.bind (Ok.chk (Q:=(w.2.1.toNat= ·)) h0 h1 rfl) fun j hj=>?_
 subst hj
 refine Ok.bind (Ok.nth (Q:=fun _=>True) (by have:=cst_len w;show _<(cst w).length;omega) trivial) fun _ _=>Ok.some ?_
 rw [e]
 refine ⟨rfl,?_⟩
 unfold wks
 rw [cst_set]
 show kso _ (w.2.1+1).toNat=_
 rw [show (w.2.1+1).toNat=w.2.1.toNat+1 by omega]
 exact kso_push (by have:=cst_len w;show _<(cst w).length;omega)
theorem ctop_ok {w:Cw} (h0:0≤w.2.1) (h1:w.2.1≤32):Ok (check_walk__top w) fun r=>(w.2.1=0∧r=none)∨(0<w.2.1∧r=some (w.2.1.toNat - 1)):=by
 have h:Ok (check_walk__topP w) fun r=>(w.2.1=0∧r.1=none)∨(0<w.2.1∧r.1=some (w.2.1.toNat - 1)):=by
  unfold check_walk__topP
  refine Ok.ifs (fun h=>Ok.some (.inl ⟨h,rfl⟩)) fun h=>?_
  have e:IntKind.wrap .i64 (w.2.1 - 1)=w.2.1 - 1:=wrap64 (by omega) (by omega)
  refine Ok.bind (Ok.chk (Q:=(· =w.2.1.toNat - 1)) (by rw [e];omega) (by rw [e];omega) (by rw [e];omega)) fun j hj=>Ok.some (.inr ⟨by omega,?_⟩)
  show some j=_
  rw [hj]
 obtain ⟨r,hr,hq⟩:=h
 exact ⟨r.1,by unfold check_walk__top;rw [hr];rfl,hq⟩
theorem wks_pop {w:Cw} (h0:0<w.2.1) (h1:w.2.1≤32): ∃ hj:w.2.1.toNat - 1<(cst w).length,wks w=(cst w)[w.2.1.toNat - 1].1::kso (cst w) (w.2.1.toNat - 1):=by
 have hl:=cst_len w
 refine ⟨by omega,?_⟩
 unfold wks
 have:=kso_pop (l:=cst w) (d:=w.2.1.toNat - 1) (by omega)
 rw [show w.2.1.toNat - 1+1=w.2.1.toNat by omega] at this
 exact this
theorem LL.tail {k:Int} {l:List Int} (h:LL (k::l)):LL l:=⟨by have:=h.1;rw [List.length_cons] at this;omega,fun x hx=>h.2 x (List.mem_cons_of_mem _ hx)⟩
def PS (i:Ins) (w w':Cw):Prop:=CI w'∧w'.2.2.2.2.2.2=w.2.2.2.2.2.2∧i.2.2.1≠15∧KS i.2.2.1 (wks w) (wks w')
set_option maxRecDepth 4000 in
theorem inner_ok {w:Cw} {i:Ins} (h:CI w) (hp:w.2.2.1=1):Ok (check_walk__inner w i) fun r=>r.1=true→PS i w r.2:=by
 unfold check_walk__inner
 obtain ⟨M,L,hks,hM,hm,hM16,hL⟩: ∃ M L,wks w=M++8::L∧(∀ k∈M,k=2∨k=3∨k=4)∧(M.length:Int)=w.2.2.2.1∧M.length≤16∧LL L:=by
  rcases h.sh with ⟨_,h⟩ | ⟨h,_⟩
  ·exact h
  ·exact absurd hp h
 have h0:=h.d0
 have h25:=h.le
 have hlen:=h.len
 refine Ok.bind (Q:=Nx (fun p:Cw×Ins=>p=(w,i)∧(i.2.2.1=2∨i.2.2.1=3∨i.2.2.1=4)) (Nx (fun p:Cw=>p=w∧i.2.2.1=5) (Nx (fun p:Cw=>p=w∧i.2.2.1=9) (Nx (fun _=>True) (fun p:Bool×Cw=>p.2=w∧(p.1=true→i.2.2.1=1∨i.2.2.1=6∨i.2.2.1=7)))))) ?_ fun d hd=>?_
 ·refine Ok.ifs (fun h1=>Ok.inr ⟨rfl,fun _=> .inl h1⟩) fun h1=>?_
  refine Ok.bind (Q:=fun q=>q.2=(w,i)∧(q.1=true→i.2.2.1=6∨i.2.2.1=7)) (Ok.ifs (fun h=>Ok.some ⟨rfl,fun _=> .inl h⟩) fun _=>Ok.some ⟨rfl,fun h=> .inr (of_decide_eq_true h)⟩) fun q hq=>?_
  obtain ⟨b,q⟩:=q
  obtain ⟨rfl,hq2⟩:=hq
  refine Ok.cond (fun h=>Ok.inr ⟨rfl,fun _=> .inr (hq2 h)⟩) fun _=>?_
  refine Ok.bind (Q:=fun q=>q.2=(w,i)∧(q.1=true→i.2.2.1=3∨i.2.2.1=4)) (Ok.ifs (fun h=>Ok.some ⟨rfl,fun _=> .inl h⟩) fun _=>Ok.some ⟨rfl,fun h=> .inr (of_decide_eq_true h)⟩) fun q hq=>?_
  obtain ⟨b',q⟩:=q
  obtain ⟨rfl,hq3⟩:=hq
  refine Ok.cond (fun h=>Ok.ifs (fun _=>Ok.inr ⟨rfl,fun h=>(by cases h)⟩) fun _=>Ok.inl ⟨rfl, .inr (hq3 h)⟩) fun _=>Ok.ifs (fun h=>Ok.inl ⟨rfl, .inl h⟩) fun _=>Ok.ifs (fun h=>Ok.inr ⟨rfl,h⟩) fun _=>Ok.ifs (fun h=>Ok.inr ⟨rfl,h⟩) fun _=>Ok.inr trivial
 ·cases d with
  | inl p=>
   obtain ⟨rfl,hk⟩:=hd
   refine Ok.onL (Ok.ifs (fun _=>Ok.some fun h=>(by cases h)) fun h16=>?_)
   have h16: ¬ ((16:Int)≤w.2.2.2.1):=h16
   refine Ok.bind (cpush_ok (w:=w) (f:=(i.2.2.1,(0,(0,(0,(0,())))))) h0 (by omega)) fun r5 hr5=>?_
   obtain ⟨hr5,hr5k⟩:=hr5
   have em:IntKind.wrap .i64 (w.2.2.2.1+1)=w.2.2.2.1+1:=wrap64 (by omega) (by omega)
   refine Ok.bind (Q:=fun q:Cw=>q.1=r5.1∧q.2.1=w.2.1+1∧q.2.2.1=w.2.2.1∧q.2.2.2.1=w.2.2.2.1+1∧q.2.2.2.2.2.2=w.2.2.2.2.2.2) ?_ fun q hq=>Ok.some fun _=>?_
   ·rw [hr5]
    exact Ok.ifs (fun _=>Ok.some ⟨rfl,rfl,rfl,em,rfl⟩) fun _=>Ok.some ⟨rfl,rfl,rfl,em,rfl⟩
   ·obtain ⟨q1,q2,q3,q4,q5⟩:=hq
    have hqk:wks q=i.2.2.1::wks w:=by rw [← hr5k];exact wks_congr q1 (by rw [q2,hr5])
    refine ⟨⟨by show 0≤q.2.1;omega,by show q.2.1≤32;omega, .inl ⟨by show q.2.2.1=1;rw [q3];exact hp,i.2.2.1::M,L,?_,?_,?_,?_,hL⟩⟩,q5,by omega,?_⟩
    ·show wks q=_
     rw [hqk,hks];rfl
    ·intro k hk'
     rcases List.mem_cons.1 hk' with rfl | hk'
     ·exact hk
     ·exact hM k hk'
    ·show _=q.2.2.2.1
     rw [q4,List.length_cons];omega
    ·rw [List.length_cons];omega
    ·show KS _ _ (wks q)
     rw [hqk]
     exact .mark hk (by omega)
  | inr d=>
   cases d with
   | inl p=>
    obtain ⟨rfl,hk⟩:=hd
    refine Ok.onR (Ok.onL (Ok.ifs (fun _=>Ok.some fun h=>(by cases h)) fun hm0=>?_))
    have hm0: ¬ (p.2.2.2.1=0):=hm0
    obtain ⟨x,M',rfl⟩: ∃ x M',M=x::M':=by
     cases M with
     | nil=>exact absurd hm.symm hm0
     | cons x M'=>exact ⟨x,M',rfl⟩
    have hpos:0<p.2.1:=by
     rw [hks,List.cons_append,List.length_cons] at hlen
     omega
    obtain ⟨hj,hpop⟩:=wks_pop hpos h.d32
    refine Ok.bind (Q:=fun q:Cw=>q.1=p.1∧q.2.1=p.2.1∧q.2.2.1=p.2.2.1∧q.2.2.2.1=p.2.2.2.1∧q.2.2.2.2.2.2=p.2.2.2.2.2.2) ?_ fun q hq=>Ok.some fun _=>?_
    ·refine Ok.bind (ctop_ok h0 h.d32) fun r hr=>?_
     rcases hr with ⟨hr,_⟩ | ⟨_,rfl⟩
     ·omega
     ·refine Ok.bind (Ok.some (Q:=(· =p.2.1.toNat - 1)) rfl) fun j hj'=>?_
      subst hj'
      exact Ok.bind (Ok.nth (Q:=fun _=>True) hj trivial) fun _ _=>Ok.ifs (fun _=>Ok.some ⟨rfl,rfl,rfl,rfl,rfl⟩) fun _=>Ok.some ⟨rfl,rfl,rfl,rfl,rfl⟩
    ·obtain ⟨q1,q2,q3,q4,q5⟩:=hq
     have ed:IntKind.wrap .i64 (q.2.1 - 1)=p.2.1 - 1:=by rw [q2];exact wrap64 (by omega) (by omega)
     have em:IntKind.wrap .i64 (q.2.2.2.1 - 1)=p.2.2.2.1 - 1:=by rw [q4];exact wrap64 (by rw [← hm];omega) (by omega)
     have hqk:wks (q.1,(IntKind.wrap .i64 (q.2.1 - 1),(q.2.2.1,(IntKind.wrap .i64 (q.2.2.2.1 - 1),q.2.2.2.2))))=M'++8::L:=by
      rw [hks,List.cons_append,List.cons.injEq] at hpop
      rw [hpop.2]
      unfold wks
      show kso (arL xY35 32 q.1) (IntKind.wrap .i64 (q.2.1 - 1)).toNat=_
      rw [ed,q1,show (p.2.1 - 1).toNat=p.2.1.toNat - 1 by omega]
      rfl
     have hx:x=2∨x=3∨x=4:=hM x List.mem_cons_self
     rw [List.length_cons] at hm hM16
     refine ⟨⟨by show 0≤IntKind.wrap .i64 (q.2.1 - 1);rw [ed];omega,by show IntKind.wrap .i64 (q.2.1 - 1)≤32;rw [ed];omega, .inl ⟨by show q.2.2.1=1;rw [q3];exact hp,M',L,hqk,fun k hk=>hM k (List.mem_cons_of_mem _ hk),?_,by omega,hL⟩⟩,q5,by omega,?_⟩
     ·show _=IntKind.wrap .i64 (q.2.2.2.1 - 1)
      rw [em];omega
     ·show KS _ _ (wks (q.1,(IntKind.wrap .i64 (q.2.1 - 1),(q.2.2.1,(IntKind.wrap .i64 (q.2.2.2.1 - 1),q.2.2.2.2)))))
      rw [hqk,hks,hk]
      exact .close (by omega) (by omega)
   | inr d=>
    cases d with
    | inl p=>
     obtain ⟨rfl,hk⟩:=hd
     refine Ok.onR (Ok.onR (Ok.onL (Ok.ifs (fun _=>Ok.some fun h=>(by cases h)) fun hm0=>?_)))
     have hm0: ¬ (0<p.2.2.2.1):=hm0
     obtain rfl:M=[]:=List.eq_nil_of_length_eq_zero (by omega)
     rw [List.nil_append] at hks
     have hpos:0<p.2.1:=by
      rw [hks,List.length_cons] at hlen
      omega
     obtain ⟨hj,hpop⟩:=wks_pop hpos h.d32
     rw [hks,List.cons.injEq] at hpop
     have ed:IntKind.wrap .i64 (p.2.1 - 1)=p.2.1 - 1:=wrap64 (by omega) (by omega)
     simp only [ed]
     have hL8:=hL.1
     have hll:L.length=(p.2.1 - 1).toNat:=by
      rw [hks,List.length_cons] at hlen
      omega
     have hin: ∀ {q:Cw},kso (cst q) (p.2.1.toNat - 1)=L→q.2.1=p.2.1 - 1→q.2.2.1=0→q.2.2.2=p.2.2.2→PS i p q:=fun {q} h1 h2 h3 h4=>by
      have hwk:wks q=L:=by
       unfold wks
       rw [h2,show (p.2.1 - 1).toNat=p.2.1.toNat - 1 by omega]
       exact h1
      refine ⟨⟨by rw [h2];omega,by rw [h2];omega, .inr ⟨by rw [h3];decide,by rw [h4, ← hm];rfl,by rw [hwk];exact hL⟩⟩,by rw [h4],by omega,?_⟩
      rw [hwk,hks,hk]
      exact .done
     refine Ok.bind (Q:=fun q:Cw=>PS i p q) ?_ fun q hq=>Ok.some fun _=>hq
     refine Ok.bind (ctop_ok (w:=(p.1,(p.2.1 - 1,(0,p.2.2.2)))) (by show 0≤p.2.1 - 1;omega) (by show p.2.1 - 1≤32;omega)) fun r hr=>?_
     rcases hr with ⟨_,rfl⟩ | ⟨hr1,rfl⟩
     ·exact Ok.bind (Q:=fun b=>b.2=(p.1,(p.2.1 - 1,(0,p.2.2.2)))∧b.1=false) (Ok.some ⟨rfl,rfl⟩) fun b hb=>by
       obtain ⟨c,b⟩:=b
       obtain ⟨rfl,rfl⟩:=hb
       exact Ok.some (hin hpop.2.symm rfl rfl rfl)
     ·have hr1:0<p.2.1 - 1:=hr1
      have hj2:(p.2.1 - 1).toNat - 1<(cst p).length:=by omega
      dsimp only
      refine Ok.bind (Q:=fun b=>b.2=(p.1,(p.2.1 - 1,(0,p.2.2.2)))) ?_ fun b hb=>?_
      ·exact Ok.bind (Ok.nth (Q:=fun _=>True) hj2 trivial) fun _ _=>Ok.some rfl
      ·obtain ⟨c,b⟩:=b
       obtain rfl:=hb
       refine Ok.cond (fun _=>?_) fun _=>Ok.some (hin hpop.2.symm rfl rfl rfl)
       refine Ok.bind (Ok.some (Q:=(· =(p.2.1 - 1).toNat - 1)) rfl) fun j hj'=>?_
       subst hj'
       refine Ok.bind (Ok.nth (Q:=fun _=>True) hj2 trivial) fun _ _=>Ok.bind (Ok.some (Q:=(· =(p.2.1 - 1).toNat - 1)) rfl) fun j hj'=>?_
       subst hj'
       refine Ok.bind (Ok.nth (l:=cst p) (Q:=(· =(cst p)[(p.2.1 - 1).toNat - 1])) hj2 rfl) fun f hf=>Ok.some (hin ?_ rfl rfl rfl)
       refine (congrArg (fun l=>kso l (p.2.1.toNat - 1)) (cst_set p _ _ _)).trans ?_
       refine (kso_keep hj2 ?_).trans hpop.2.symm
       rw [← hf]
    | inr d=>
     cases d with
     | inl p=>exact Ok.onR (Ok.onR (Ok.onR (Ok.onL (Ok.some fun h=>(by cases h)))))
     | inr p=>
      obtain ⟨b,p⟩:=p
      obtain ⟨rfl,hk⟩:=hd
      refine Ok.onR (Ok.onR (Ok.onR (Ok.onR (Ok.some fun hb=>⟨h,rfl,?_,?_⟩))))
      ·have:=hk hb
       omega
      ·show KS _ (wks p) (wks p)
       rcases hk hb with hk | hk
       ·rw [hk];exact .text
       ·exact .flat hk
end Go.Fn
/- The check, plainly: what passes it is a walk from nothing to nothing. -/
namespace Go.Fn
open Go Go.Lf
theorem Ok.sb {α β:Type} {x:α} {f:α→Option β} {Q:β→Prop} (h:Ok (f x) Q):Ok ((Option.some x).bind f) Q:=h
theorem place_ok {w:Cw} {i:Ins} (h:CI w):Ok (check_walk__place w i) fun r=>r.1=true→(r.2=w∧i.2.2.1=15∧wks w=[])∨PS i w r.2:=by
 unfold check_walk__place
 refine Ok.ifs (fun hp=>Ok.ends ((inner_ok h hp).imp fun r hr hb=> .inr (hr hb))) fun hp=>?_
 obtain ⟨hm0,hLL⟩:w.2.2.2.1=0∧LL (wks w):=by
  rcases h.sh with ⟨h',_⟩ | ⟨_,h'⟩
  ·exact absurd h' hp
  ·exact h'
 have h0:=h.d0
 have h32:=h.d32
 have h25:=h.le
 have hlen:=h.len
 refine Ok.bind (ctop_ok h0 h32) fun r2 hr=>?_
 have htop:0<w.2.1→ ∃ hj:w.2.1.toNat - 1<(cst w).length,wks w=(cst w)[w.2.1.toNat - 1].1::kso (cst w) (w.2.1.toNat - 1):=fun hpos=>wks_pop hpos h32
 have hnth: ∀ {Q:Cfr→Prop},0<w.2.1→(∀ hj:w.2.1.toNat - 1<(cst w).length,Q (cst w)[w.2.1.toNat - 1])→Ok (nth (cst w) (w.2.1.toNat - 1)) Q:=fun hpos hq=>by
  obtain ⟨hj,_⟩:=htop hpos
  exact Ok.nth hj (hq hj)
 have hset: ∀ {f:Cfr} {x:xT31},0<w.2.1→(∀ hj:w.2.1.toNat - 1<(cst w).length,f.1=(cst w)[w.2.1.toNat - 1].1)→x.1=w.2.1→wks (arS xY35 32 w.1 (w.2.1.toNat - 1) f,x)=wks w:=fun {f x} hpos hf hx=>by
  obtain ⟨hj,_⟩:=htop hpos
  unfold wks
  refine (congrArg (fun l=>kso l _) (cst_set w _ _ _)).trans ?_
  rw [kso_keep hj (hf hj)]
  show kso _ x.1.toNat=_
  rw [hx]
 refine Ok.bind (Q:=fun b:Bool×(Cw×Ins)=>b.2=(w,i)) ?_ fun b7 hb7=>?_
 ·rcases hr with ⟨_,rfl⟩ | ⟨hpos,rfl⟩
  ·exact Ok.some rfl
  ·exact Ok.cond (fun _=>Ok.sb (Ok.bind (hnth (Q:=fun _=>True) hpos fun _=>trivial) fun _ _=>Ok.ifs (fun _=>Ok.sb (Ok.bind (hnth (Q:=fun _=>True) hpos fun _=>trivial) fun _ _=>Ok.some rfl)) fun _=>Ok.some rfl)) fun h=>(by cases h)
 obtain ⟨c7,b7⟩:=b7
 obtain rfl:=hb7
 refine Ok.bind (Q:=fun b:Bool×(Cw×Ins)=>b.2=(w,i)) ?_ fun b16 hb16=>?_
 ·rcases hr with ⟨_,rfl⟩ | ⟨hpos,rfl⟩
  ·exact Ok.some rfl
  ·have hn:=fun (f:Cfr→Option (Bool×(Cw×Ins))) (hf: ∀ y,Ok (f y) fun b=>b.2=(w,i))=>Ok.sb (x:=w.2.1.toNat - 1) (f:=fun j=>(nth (cst w) j).bind f) (Ok.bind (hnth (Q:=fun _=>True) hpos fun _=>trivial) fun y _=>hf y)
   exact Ok.cond (fun _=>hn _ fun _=>Ok.ifs (fun _=>hn _ fun _=>Ok.ifs (fun _=>hn _ fun _=>hn _ fun _=>Ok.some rfl) fun _=>Ok.some rfl) fun _=>Ok.some rfl) fun h=>(by cases h)
 obtain ⟨c16,b16⟩:=b16
 obtain rfl:=hb16
 dsimp only
 refine Ok.bind (Q:=Nx (fun p:Bool×Cw=>p.1=true→p.2=w∧i.2.2.1=15∧wks w=[]) (fun w'=>PS i w w')) ?_ fun d hd=>?_
 ·have hpush: ∀ {f:Cfr} {Q:Cw→Prop},(∀ r:Cw,r=(arS xY35 32 w.1 w.2.1.toNat f,(w.2.1+1,w.2.2))→wks r=f.1::wks w→Q r)→Ok (check_walk__push w f) Q:=fun hq=>(cpush_ok h0 (by omega)).imp fun r hr=>hq r hr.1 hr.2
  have hKS: ∀ {k:Int} {ks:List Int} {q:Cw},i.2.2.1=k→k≠15→q.2.2.2.2.2.2=w.2.2.2.2.2.2→wks q=ks→KS k (wks w) ks→CI q→PS i w q:=fun hk h15 hs hw hks hc=>⟨hc,hs,by rw [hk];exact h15,by rw [hk,hw];exact hks⟩
  refine Ok.ifs (fun hk=>Ok.inl fun hb=>⟨rfl,hk,?_⟩) fun h15=>Ok.ifs (fun hk=>?_) fun h8=>Ok.ifs (fun hk=>?_) fun h10=>Ok.ifs (fun hk=>?_) fun h11=>Ok.ifs (fun hk=>?_) fun h12=>?_
  ·rcases hr with ⟨hz,rfl⟩ | ⟨_,rfl⟩
   ·exact List.eq_nil_of_length_eq_zero (by omega)
   ·cases hb
  ·refine Ok.bind (Q:=fun b:Bool×(Cw×Ins)=>b.2=(w,i)) ?_ fun b hb=>?_
   ·refine Ok.cond (fun _=>Ok.cond (fun _=>Ok.some rfl) fun _=>Ok.some rfl) fun _=>Ok.some rfl
   obtain ⟨c,b⟩:=b
   obtain rfl:=hb
   refine Ok.cond (fun _=>Ok.inl fun h=>(by cases h)) fun _=>Ok.bind (hpush (Q:=fun r=>r=(arS xY35 32 w.1 w.2.1.toNat (i.2.2.1,(0,(0,(0,(0,()))))),(w.2.1+1,w.2.2))∧wks r=i.2.2.1::wks w) fun r h1 h2=>⟨h1,h2⟩) fun r hr=>Ok.inr ?_
   obtain ⟨hr1,hr2⟩:=hr
   have hw:wks (u2 r ((1:Int),r.2.2.2))=8::wks w:=by rw [← hk, ← hr2];exact wks_congr rfl rfl
   refine hKS hk (by decide) (by rw [hr1]) hw (.para (by omega)) ⟨?_,?_, .inl ⟨rfl,[],wks w,hw,by simp,?_,by simp,hLL⟩⟩
   ·show 0≤r.2.1
    rw [hr1];show 0≤w.2.1+1;omega
   ·show r.2.1≤32
    rw [hr1];show w.2.1+1≤32;omega
   ·show _=r.2.2.2.1
    rw [hr1];exact hm0.symm
  ·refine Ok.bind (Q:=fun b:Bool×(Cw×Ins)=>b.2=(w,i)∧(b.1=false→w.2.1<8)) ?_ fun b hb=>?_
   ·refine Ok.cond (fun _=>Ok.cond (fun _=>Ok.some ⟨rfl,fun h=>by have:=of_decide_eq_false h;omega⟩) fun _=>Ok.some ⟨rfl,fun h=>(by cases h)⟩) fun _=>Ok.some ⟨rfl,fun h=>by have:=of_decide_eq_false h;omega⟩
   obtain ⟨c,b⟩:=b
   obtain ⟨rfl,hd8⟩:=hb
   refine Ok.cond (fun _=>Ok.inl fun h=>(by cases h)) fun hc=>Ok.bind (hpush (Q:=fun r=>r=(arS xY35 32 w.1 w.2.1.toNat (i.2.2.1,(0,(0,(0,(0,()))))),(w.2.1+1,w.2.2))∧wks r=i.2.2.1::wks w) fun r h1 h2=>⟨h1,h2⟩) fun r hr=>Ok.inr ?_
   obtain ⟨hr1,hr2⟩:=hr
   have hd8:=hd8 hc
   rw [hk] at hr2
   refine hKS hk (by decide) (by rw [hr1]) hr2 (.list (by omega)) ⟨?_,?_, .inr ⟨?_,?_,?_⟩⟩
   ·rw [hr1];show 0≤w.2.1+1;omega
   ·rw [hr1];show w.2.1+1≤32;omega
   ·rw [hr1];exact hp
   ·rw [hr1];exact hm0
   ·rw [hr2]
    refine ⟨by rw [List.length_cons];omega,fun k hk=>?_⟩
    rcases List.mem_cons.1 hk with rfl | hk
    ·exact .inl rfl
    ·exact hLL.2 k hk
  ·refine Ok.bind (Q:=fun b:Bool×Cw=>b.2=w∧(b.1=false→0<w.2.1∧r2=some (w.2.1.toNat - 1)∧ ∀ hj:w.2.1.toNat - 1<(cst w).length,(cst w)[w.2.1.toNat - 1].1=10)) ?_ fun b hb=>?_
   ·rcases hr with ⟨_,rfl⟩ | ⟨hpos,rfl⟩
    ·exact Ok.some ⟨rfl,fun h=>(by cases h)⟩
    ·exact Ok.cond (fun _=>Ok.sb (Ok.bind (hnth (Q:=fun f=> ∀ hj:w.2.1.toNat - 1<(cst w).length,f=(cst w)[w.2.1.toNat - 1]) hpos fun _ _=>rfl) fun f hf=>Ok.some ⟨rfl,fun h=>⟨hpos,rfl,fun hj=>by rw [← hf hj];exact Decidable.not_not.1 (of_decide_eq_false h)⟩⟩)) fun h=>(by cases h)
   obtain ⟨c,b⟩:=b
   obtain ⟨rfl,hb⟩:=hb
   refine Ok.cond (fun _=>Ok.inl fun h=>(by cases h)) fun hc=>?_
   obtain ⟨hpos,rfl,h10k⟩:=hb hc
   refine Ok.sb (Ok.bind (hnth (Q:=fun _=>True) hpos fun _=>trivial) fun g _=>Ok.sb (Ok.bind (hnth (Q:=fun f=> ∀ hj:b.2.1.toNat - 1<(cst b).length,f=(cst b)[b.2.1.toNat - 1]) hpos fun _ _=>rfl) fun f hf=>Ok.inr ?_))
   have hw:=hset (f:=(f.1,(IntKind.wrap .i64 (g.2.1+1),f.2.2))) (x:=b.2) hpos (fun hj=>by rw [← hf hj]) rfl
   obtain ⟨hj,hpop⟩:=htop hpos
   refine hKS hk (by decide) rfl hw ?_ ⟨h0,h32, .inr ⟨hp,hm0,by rw [hw];exact hLL⟩⟩
   rw [hpop,h10k hj]
   exact .item
  ·rcases hr with ⟨hz,rfl⟩ | ⟨hpos,rfl⟩
   ·refine Ok.bind (hpush (Q:=fun r=>r=(arS xY35 32 w.1 w.2.1.toNat (i.2.2.1,(0,(0,(0,(((i.2.2.2.2.1.length:Nat):Int),()))))),(w.2.1+1,w.2.2))∧wks r=i.2.2.1::wks w) fun r h1 h2=>⟨h1,h2⟩) fun r hr=>Ok.inr ?_
    obtain ⟨hr1,hr2⟩:=hr
    rw [hk] at hr2
    refine hKS hk (by decide) (by rw [hr1]) hr2 (.table (by omega)) ⟨?_,?_, .inr ⟨?_,?_,?_⟩⟩
    ·rw [hr1];show 0≤w.2.1+1;omega
    ·rw [hr1];show w.2.1+1≤32;omega
    ·rw [hr1];exact hp
    ·rw [hr1];exact hm0
    ·rw [hr2]
     refine ⟨by rw [List.length_cons];omega,fun k hk=>?_⟩
     rcases List.mem_cons.1 hk with rfl | hk
     ·exact .inr rfl
     ·exact hLL.2 k hk
   ·exact Ok.inl fun h=>(by cases h)
  ·refine Ok.bind (Q:=fun b:Bool×(Cw×Ins)=>b.2=(w,i)∧(b.1=true→i.2.2.1=13∨i.2.2.1=14)) (Ok.ifs (fun h=>Ok.some ⟨rfl,fun _=> .inl h⟩) fun _=>Ok.some ⟨rfl,fun h=> .inr (of_decide_eq_true h)⟩) fun b hb=>?_
   obtain ⟨c,b⟩:=b
   obtain ⟨rfl,hk⟩:=hb
   refine Ok.cond (fun hc=>?_) fun _=>Ok.inl fun h=>(by cases h)
   have hk:=hk hc
   refine Ok.bind (Q:=fun b:Bool×(Cw×Ins)=>b.2=(w,i)∧(b.1=false→0<w.2.1∧r2=some (w.2.1.toNat - 1)∧(i.2.2.1=13→ ∀ hj:w.2.1.toNat - 1<(cst w).length,(cst w)[w.2.1.toNat - 1].1=12))) ?_ fun b hb=>?_
   ·rcases hr with ⟨_,rfl⟩ | ⟨hpos,rfl⟩
    ·exact Ok.some ⟨rfl,fun h=>(by cases h)⟩
    ·refine Ok.cond (fun _=>Ok.cond (fun _=>Ok.ifs (fun _=>?_) fun h13=>Ok.some ⟨rfl,fun _=>⟨hpos,rfl,fun h=>absurd h h13⟩⟩) fun _=>Ok.some ⟨rfl,fun h=>(by cases h)⟩) fun _=>Ok.some ⟨rfl,fun h=>(by cases h)⟩
     exact Ok.sb (Ok.bind (hnth (Q:=fun f=> ∀ hj:w.2.1.toNat - 1<(cst w).length,f=(cst w)[w.2.1.toNat - 1]) hpos fun _ _=>rfl) fun f hf=>Ok.some ⟨rfl,fun h=>⟨hpos,rfl,fun _ hj=>by rw [← hf hj];exact Decidable.not_not.1 (of_decide_eq_false h)⟩⟩)
   obtain ⟨c,b⟩:=b
   obtain ⟨rfl,hb⟩:=hb
   refine Ok.cond (fun _=>Ok.inl fun h=>(by cases h)) fun hc=>?_
   obtain ⟨hpos,rfl,h12k⟩:=hb hc
   obtain ⟨hj,hpop⟩:=htop hpos
   refine Ok.ifs (fun h14=>Ok.inr ?_) fun h14=>?_
   ·have ed:IntKind.wrap .i64 (w.2.1 - 1)=w.2.1 - 1:=wrap64 (by omega) (by omega)
    have hw:wks (w.1,(IntKind.wrap .i64 (w.2.1 - 1),w.2.2))=kso (cst w) (w.2.1.toNat - 1):=by
     unfold wks
     show kso (cst w) (IntKind.wrap .i64 (w.2.1 - 1)).toNat=_
     rw [ed,show (w.2.1 - 1).toNat=w.2.1.toNat - 1 by omega]
    rw [hpop] at hLL
    refine hKS h14 (by decide) rfl hw ?_ ⟨?_,?_, .inr ⟨hp,hm0,by rw [hw];exact hLL.tail⟩⟩
    ·rw [hpop]
     exact .fin (hLL.2 _ List.mem_cons_self)
    ·show 0≤IntKind.wrap .i64 (w.2.1 - 1)
     rw [ed];omega
    ·show IntKind.wrap .i64 (w.2.1 - 1)≤32
     rw [ed];omega
   ·have h13:i.2.2.1=13:=by
     rcases hk with hk | hk
     ·exact hk
     ·exact absurd hk h14
    have h12:=h12k h13 hj
    refine Ok.sb (Ok.bind (hnth (Q:=fun _=>True) hpos fun _=>trivial) fun g _=>Ok.sb (Ok.bind (hnth (Q:=fun f=> ∀ hj:w.2.1.toNat - 1<(cst w).length,f=(cst w)[w.2.1.toNat - 1]) hpos fun _ _=>rfl) fun f hf=>Ok.sb ?_))
    have hl2:(arL xY35 32 (arS xY35 32 w.1 (w.2.1.toNat - 1) (u2 f (IntKind.wrap .i64 (g.2.2.1+1),f.2.2.2))):List Cfr)=(cst w).set (w.2.1.toNat - 1) (u2 f (IntKind.wrap .i64 (g.2.2.1+1),f.2.2.2)):=arL_arS
    have hf:=hf hj
    refine Ok.bind (Q:=fun f':Cfr=>f'.1=f.1) ⟨u2 f (IntKind.wrap .i64 (g.2.2.1+1),f.2.2.2),?_,rfl⟩ fun f' hf'=>Ok.inr ?_
    ·unfold nth
     refine (congrArg (fun l:List Cfr=>l[w.2.1.toNat - 1]?) hl2).trans ?_
     exact List.getElem?_set_self hj
    ·have hw:wks (arS xY35 32 (arS xY35 32 w.1 (w.2.1.toNat - 1) (u2 f (IntKind.wrap .i64 (g.2.2.1+1),f.2.2.2))) (w.2.1.toNat - 1) (u3 f' ((0:Int),f'.2.2.2.2)),w.2)=wks w:=by
      unfold wks
      show kso (arL xY35 32 (arS xY35 32 (arS xY35 32 w.1 _ _) _ _)) w.2.1.toNat=_
      refine (congrArg (fun l:List Cfr=>kso l w.2.1.toNat) (show (_:List Cfr)=((cst w).set (w.2.1.toNat - 1) (u2 f (IntKind.wrap .i64 (g.2.2.1+1),f.2.2.2))).set (w.2.1.toNat - 1) (u3 f' ((0:Int),f'.2.2.2.2)) from arL_arS.trans (congrArg (fun l:List Cfr=>l.set _ _) hl2))).trans ?_
      rw [kso_keep (by rw [List.length_set];exact hj) (by rw [List.getElem_set_self];exact hf'),kso_keep hj (by rw [← hf])]
     refine hKS h13 (by decide) rfl hw ?_ ⟨h0,h32, .inr ⟨hp,hm0,by rw [hw];exact hLL⟩⟩
     rw [hpop,h12]
     exact .row
 ·cases d with
  | inl p=>exact Ok.onL (Ok.some fun hb=> .inl (hd hb))
  | inr p=>exact Ok.onR (Ok.some fun _=> .inr hd)
end Go.Fn
open Go Go.Lf
set_option maxRecDepth 10000
namespace Go.Fn
noncomputable def folioref18_SameFramesCtx:Lf.Ctx:=⟨71,Tys,[],[],[],[],[],TysEq,[],some 4611686018427387904,TysIm,[]⟩
noncomputable def folioref18_SameFramesCode:Go.Code:=(Go.Proofs.Tryd.f10.body).getD .skip
def folioref18_SameFramesAnn:Lf.Ann:=(.seq .no (.seq .no (.seq (.seq .no (.loop ⟨[1,0],[],[(5,(.int .i64))],[],[]⟩ (.more (.ext 0) ⟨[],[],[],[],[]⟩ (.one .ret ⟨[],[],[(4, .bool)],[],[]⟩)) (.seq .no (.seq (.seq (.join (.one .nrm ⟨[1,0,5],[],[(70, .bool)],[],[]⟩) (.draw 54)) .no) .no)))) .no)))
noncomputable def folioref18_SameFrames (a0:List xT13) (a1:List xT13):Option (Bool):=
 bif (decide (((((List.length a0):Nat):Int):Int)≠(((List.length a1):Nat):Int))) then some false
 else (Lf.loopU (σ:=Int) (κ:=(Unit)⊕(Bool)) (fun z1=>
   bif (decide (z1<(((List.length a0):Nat):Int))) then (((Lf.idx a0 z1)).bind fun r2=>
    ((Lf.idx a1 z1)).bind fun r3=>
    bif (!(decide ((r2.1:Int)≠r3.1))) then ((Lf.idx a0 z1)).bind fun r4=>
    ((Lf.idx a1 z1)).bind fun r5=>
    bif (!(decide ((r4.2.1:Int)≠r5.2.1))) then ((Lf.idx a0 z1)).bind fun r6=>
    ((Lf.idx a1 z1)).bind fun r7=>
    bif (!(decide ((r6.2.2.1.1:Int)≠r7.2.2.1.1))) then ((Lf.idx a0 z1)).bind fun r8=>
    ((Lf.idx a1 z1)).bind fun r9=>
    some (decide ((r8.2.2.1.2.1:Int)≠r9.2.2.1.2.1))
    else some true
    else some true
    else some true).bind fun r10=>
   bif r10 then some (.inr (.inr false))
   else some (.inl (Go.IntKind.wrap .i64 (z1+(1:Int))))
   else some (.inr (.inl ()))) (0:Int):Option ((Unit)⊕(Bool))).bind fun r11=>
 Lf.onSum r11 (fun a12=>
 some true) (fun b13=>
 some b13)
theorem folioref18_SameFrames_eq (a0:List xT13) (a1:List xT13):Lf.fnE folioref18_SameFramesCtx folioref18_SameFramesCode folioref18_SameFramesAnn [.val (.sl xY34), .val (.sl xY34)] [.bool] [.tmp 4] (a0,a1)=folioref18_SameFrames a0 a1:=by kernel_rfl
noncomputable def folioref18_SameFramesEnt:Nat×Lf.Entry:=(10,⟨[.val (.sl xY34), .val (.sl xY34)],[.bool],fun z=>folioref18_SameFrames z.1 z.2⟩)
theorem folioref18_SameFrames_ok:Lf.EntryOk Go.Proofs.Tryd.prog GG 10 folioref18_SameFramesEnt.2:=
 Lf.fn_ok (c:=folioref18_SameFramesCtx) (code:=folioref18_SameFramesCode) (an:=folioref18_SameFramesAnn) (slots:=[.tmp 4]) (fn:=Go.Proofs.Tryd.f10) (by kernel_rfl) ⟨Tys_ok,Lf.FnsOk.look .nil,Lf.IpsOk.look .nil,TysEq_ok,TysIm_ok,Lf.IvsOk.look .nil,Lf.FxsOk.look .nil⟩ (by kernel_rfl) (by kernel_rfl) (by kernel_rfl) (by kernel_rfl) (by kernel_rfl) (Nat.le_of_ble_eq_true rfl) (by simp [Lf.Ty.top]) (by simp [Lf.Ty.top]) fun z r h=>(folioref18_SameFrames_eq z.1 z.2).trans h
noncomputable def foliolaw18_twinCtx:Lf.Ctx:=⟨6,Tys,[],[2],[],[(2,(.rw 62 (.st (.pr .str xY29))))],[],TysEq,[],some 4611686018427387904,TysIm,[]⟩
noncomputable def foliolaw18_twinCode:Go.Code:=(Go.Proofs.Tryd.f6.body).getD .skip
def foliolaw18_twinAnn:Lf.Ann:= .no
noncomputable def foliolaw18_twin (a0:List ((List (UInt8))×xT16)):Option (List ((List (UInt8))×xT16)):=
 ((Lf.app (56:Nat) ([]:List ((List (UInt8))×xT16)) a0)).bind fun r1=>
 some r1
theorem foliolaw18_twin_eq (a0:List ((List (UInt8))×xT16)):Lf.fnE foliolaw18_twinCtx foliolaw18_twinCode foliolaw18_twinAnn [.val (.sl (.st (.pr .str xY29)))] [(.rw 62 (.st (.pr .str xY29)))] [.tmp 2] (a0)=foliolaw18_twin a0:=by kernel_rfl
noncomputable def foliolaw18_twinEnt:Nat×Lf.Entry:=(6,⟨[.val (.sl (.st (.pr .str xY29)))],[(.rw 62 (.st (.pr .str xY29)))],fun z=>foliolaw18_twin z⟩)
theorem foliolaw18_twin_ok:Lf.EntryOk Go.Proofs.Tryd.prog GG 6 foliolaw18_twinEnt.2:=
 Lf.fn_ok (c:=foliolaw18_twinCtx) (code:=foliolaw18_twinCode) (an:=foliolaw18_twinAnn) (slots:=[.tmp 2]) (fn:=Go.Proofs.Tryd.f6) (by kernel_rfl) ⟨Tys_ok,Lf.FnsOk.look .nil,Lf.IpsOk.look .nil,TysEq_ok,TysIm_ok,Lf.IvsOk.look .nil,Lf.FxsOk.look .nil⟩ (by kernel_rfl) (by kernel_rfl) (by kernel_rfl) (by kernel_rfl) (by kernel_rfl) (Nat.le_of_ble_eq_true rfl) (by simp [Lf.Ty.top]) (by simp [Lf.Ty.top]) fun z r h=>(foliolaw18_twin_eq z).trans h
end Go.Fn
open Go Go.Lf
set_option maxRecDepth 10000
namespace Go.Fn
noncomputable def check_CheckCtx:Lf.Ctx:=⟨26,Tys,[check_runEnt],[14],[],[],[],TysEq,[],some 4611686018427387904,TysIm,[]⟩
noncomputable def check_CheckCode:Go.Code:=(Go.Proofs.Tryd.f16.body).getD .skip
def check_CheckAnn:Lf.Ann:= .no
noncomputable def check_Check (a0:List (Int)) (a1:List (UInt8)) (a2:Int) (a3:Int):Option ((Int)×(Int)):=
 ((Go.Fn.check_run a0 a1 a2 a3)).bind fun r1=>
 some r1.2.2
theorem check_Check_eq (a0:List (Int)) (a1:List (UInt8)) (a2:Int) (a3:Int):Lf.fnE check_CheckCtx check_CheckCode check_CheckAnn [.val (.sl (.int .u8)), .val .str, .val (.int .i64), .val (.int .i64)] [(.int .i64),(.int .i64)] [.tmp 8, .tmp 9] (a0,a1,a2,a3)=check_Check a0 a1 a2 a3:=by kernel_rfl
noncomputable def check_CheckEnt:Nat×Lf.Entry:=(16,⟨[.val (.sl (.int .u8)), .val .str, .val (.int .i64), .val (.int .i64)],[(.int .i64),(.int .i64)],fun z=>check_Check z.1 z.2.1 z.2.2.1 z.2.2.2⟩)
theorem check_Check_ok:Lf.EntryOk Go.Proofs.Tryd.prog GG 16 check_CheckEnt.2:=
 Lf.fn_ok (c:=check_CheckCtx) (code:=check_CheckCode) (an:=check_CheckAnn) (slots:=[.tmp 8, .tmp 9]) (fn:=Go.Proofs.Tryd.f16) (by kernel_rfl) ⟨Tys_ok,Lf.FnsOk.look (.con check_run_ok .nil),Lf.IpsOk.look .nil,TysEq_ok,TysIm_ok,Lf.IvsOk.look .nil,Lf.FxsOk.look .nil⟩ (by kernel_rfl) (by kernel_rfl) (by kernel_rfl) (by kernel_rfl) (by kernel_rfl) (Nat.le_of_ble_eq_true rfl) (by simp [Lf.Ty.top]) (by simp [Lf.Ty.top]) fun z r h=>(check_Check_eq z.1 z.2.1 z.2.2.1 z.2.2.2).trans h
noncomputable def vm_NewCtx:Lf.Ctx:=⟨87,Tys,[style_CheckEnt,check_CheckEnt,style_WholeEnt,code_InstrsEnt],[27,37,70],[],[(51,(.st (.pr (.int .i64) (.pr (.rw 60 xY14) xY165)))),(70,(.rw 60 xY14))],[],TysEq,[],some 4611686018427387904,TysIm,[]⟩
noncomputable def vm_NewCode:Go.Code:=(Go.Proofs.Tryd.f5.body).getD .skip
def vm_NewAnn:Lf.Ann:=(.seq .no (.seq (.seq (.join (.one .nrm ⟨[0,1,4,2,3],[],[(26, .bool)],[],[]⟩) .no) .no) (.seq .no (.seq .no (.seq .no (.seq .no (.seq (.seq .no (.loop ⟨[0,53,1,54],[(16, .ref 52 [] 0)],[(55,(.int .i64))],[(52,58,(.st (.pr (.int .i64) (.pr (.rw 60 xY14) xY165))))],[]⟩ (.one (.ext 0) ⟨[1],[(16, .ref 52 [] 0)],[],[(52,58,(.st (.pr (.int .i64) (.pr (.rw 60 xY14) xY165))))],[]⟩) (.seq .no (.seq .no (.seq (.seq .no (.seq .no (.soup 7))) .no))))) .no)))))))
noncomputable def vm_New (a0:List xT28) (a1:List (Int)) (a2:List (UInt8)) (a3:Int) (a4:Int):Option ((Option ((Int)×(xT2×xT144)))×(Int)):=
 (bif (!(decide (a4<(10:Int)))) then some (decide ((200:Int)<a4))
  else some true).bind fun r1=>
 bif r1 then some ((none:Option ((Int)×(xT2×xT144))),(1:Int))
 else ((Go.Fn.style_Check a0)).bind fun r2=>
 bif (decide ((r2.2:Int)≠(0:Int))) then some ((none:Option ((Int)×(xT2×xT144))),r2.2)
 else bif (decide ((1000:Int)<a3)) then some ((none:Option ((Int)×(xT2×xT144))),(2:Int))
 else ((Go.Fn.check_Check a1 a2 (((List.length a0):Nat):Int) a3)).bind fun r3=>
 bif (decide ((r3.2:Int)≠(0:Int))) then some ((none:Option ((Int)×(xT2×xT144))),r3.2)
 else (Lf.loopU (σ:=(Int)×((Int)×(xT2×xT144))) (κ:=(Int)×(xT2×xT144)) (fun z4=>
   bif (decide (z4.1<(((List.length a0):Nat):Int))) then ((Lf.idx a0 z4.1)).bind fun r5=>
   ((Go.Fn.style_Whole a0 r5.1)).bind fun r6=>
   ((Lf.app (24:Nat) z4.2.2.1 (r6.1::([]:List ((Int)×((Int)×((Int)×(Unit)))))))).bind fun r7=>
   some (.inl ((Go.IntKind.wrap .i64 (z4.1+(1:Int))),(z4.2.1,(r7,z4.2.2.2))))
   else some (.inr z4.2)) ((0:Int),((1:Int),(([]:List ((Int)×((Int)×((Int)×(Unit))))),(([]:List ((Int)×((Int)×xT3))),(a2,(a4,((0:Int),((0:Int),(false,((((0:Int),((0:Int),(((0:Int),((0:Int),())),()))),(((0:Int),((0:Int),(((0:Int),((0:Int),())),()))),(((0:Int),((0:Int),(((0:Int),((0:Int),())),()))),(((0:Int),((0:Int),(((0:Int),((0:Int),())),()))),(((0:Int),((0:Int),(((0:Int),((0:Int),())),()))),(((0:Int),((0:Int),(((0:Int),((0:Int),())),()))),(((0:Int),((0:Int),(((0:Int),((0:Int),())),()))),(((0:Int),((0:Int),(((0:Int),((0:Int),())),()))),(((0:Int),((0:Int),(((0:Int),((0:Int),())),()))),(((0:Int),((0:Int),(((0:Int),((0:Int),())),()))),(((0:Int),((0:Int),(((0:Int),((0:Int),())),()))),(((0:Int),((0:Int),(((0:Int),((0:Int),())),()))),(((0:Int),((0:Int),(((0:Int),((0:Int),())),()))),(((0:Int),((0:Int),(((0:Int),((0:Int),())),()))),(((0:Int),((0:Int),(((0:Int),((0:Int),())),()))),(((0:Int),((0:Int),(((0:Int),((0:Int),())),()))),(((0:Int),((0:Int),(((0:Int),((0:Int),())),()))),(((0:Int),((0:Int),(((0:Int),((0:Int),())),()))),(((0:Int),((0:Int),(((0:Int),((0:Int),())),()))),(((0:Int),((0:Int),(((0:Int),((0:Int),())),()))),(((0:Int),((0:Int),(((0:Int),((0:Int),())),()))),(((0:Int),((0:Int),(((0:Int),((0:Int),())),()))),(((0:Int),((0:Int),(((0:Int),((0:Int),())),()))),(((0:Int),((0:Int),(((0:Int),((0:Int),())),()))),(((0:Int),((0:Int),(((0:Int),((0:Int),())),()))),(((0:Int),((0:Int),(((0:Int),((0:Int),())),()))),(((0:Int),((0:Int),(((0:Int),((0:Int),())),()))),(((0:Int),((0:Int),(((0:Int),((0:Int),())),()))),(((0:Int),((0:Int),(((0:Int),((0:Int),())),()))),(((0:Int),((0:Int),(((0:Int),((0:Int),())),()))),(((0:Int),((0:Int),(((0:Int),((0:Int),())),()))),(((0:Int),((0:Int),(((0:Int),((0:Int),())),()))),())))))))))))))))))))))))))))))))),((0:Int),(([]:List ((Int)×((Int)×(Unit)))),(([]:List xT22),(([]:List (List xT22)),(([]:List ((Int)×((Int)×(Unit)))),(false,(false,((0:Int),(([]:List (UInt8)),((0:Int),(false,((0:Int),(([]:List ((Int)×((Int)×(Unit)))),(([]:List (List xT22)),(false,()))))))))))))))))))))))))):Option ((Int)×(xT2×xT144))).bind fun r8=>
 ((Go.Fn.code_Instrs a1)).bind fun r9=>
 some ((some (Lf.u2 r8 (r9.1,r8.2.2.2))),(0:Int))
theorem vm_New_eq (a0:List xT28) (a1:List (Int)) (a2:List (UInt8)) (a3:Int) (a4:Int):Lf.fnE vm_NewCtx vm_NewCode vm_NewAnn [.val (.sl (.st xY33)), .val (.sl (.int .u8)), .val .str, .val (.int .i64), .val (.int .i64)] [(.bo 58 (.st xY168)),(.int .i64)] [.tmp 10, .tmp 11] (a0,a1,a2,a3,a4)=vm_New a0 a1 a2 a3 a4:=by kernel_rfl
noncomputable def vm_NewEnt:Nat×Lf.Entry:=(5,⟨[.val (.sl (.st xY33)), .val (.sl (.int .u8)), .val .str, .val (.int .i64), .val (.int .i64)],[(.bo 58 (.st xY168)),(.int .i64)],fun z=>vm_New z.1 z.2.1 z.2.2.1 z.2.2.2.1 z.2.2.2.2⟩)
theorem vm_New_ok:Lf.EntryOk Go.Proofs.Tryd.prog GG 5 vm_NewEnt.2:=
 Lf.fn_ok (c:=vm_NewCtx) (code:=vm_NewCode) (an:=vm_NewAnn) (slots:=[.tmp 10, .tmp 11]) (fn:=Go.Proofs.Tryd.f5) (by kernel_rfl) ⟨Tys_ok,Lf.FnsOk.look (.con style_Check_ok (.con check_Check_ok (.con style_Whole_ok (.con code_Instrs_ok .nil)))),Lf.IpsOk.look .nil,TysEq_ok,TysIm_ok,Lf.IvsOk.look .nil,Lf.FxsOk.look .nil⟩ (by kernel_rfl) (by kernel_rfl) (by kernel_rfl) (by kernel_rfl) (by kernel_rfl) (Nat.le_of_ble_eq_true rfl) (by simp [Lf.Ty.top]) (by simp [Lf.Ty.top]) fun z r h=>(vm_New_eq z.1 z.2.1 z.2.2.1 z.2.2.2.1 z.2.2.2.2).trans h
noncomputable def foliolaw18_awakeCtx:Lf.Ctx:=⟨101,Tys,[vm_NewEnt,vm_Machine__HaltedEnt,vm_Machine__StepEnt,vm_Machine__StackEnt,vm_Machine__LinesEnt,vm_Machine__RunEnt,vm_Machine__LineEnt],[6,9,1],[],[(7000021, .dead 1 .unit)],[],TysEq,[],some 4611686018427387904,TysIm,[]⟩
noncomputable def foliolaw18_awakeCode:Go.Code:=(Go.Proofs.Tryd.f4.body).getD .skip
def foliolaw18_awakeAnn:Lf.Ann:=(.seq .no (.seq .no (.seq (.seq (.join (.one .nrm ⟨[],[(1, .ref 1 [] 0)],[(21, .bool)],[(1,58,(.st xY168))],[]⟩) (.bop [1] .no)) .no) (.seq .no (.seq (.seq (.join (.one .nrm ⟨[],[(1, .ref 1 [] 0)],[(67, .bool)],[(1,58,(.st xY168))],[]⟩) .no) .no) (.seq .no (.seq (.join (.one .nrm ⟨[],[],[(0, .bool)],[],[]⟩) .no) .no)))))))
noncomputable def foliolaw18_awake  :Option (Bool):=
 ((Go.Fn.vm_New ([]:List xT28) ((128:Int)::((17:Int)::((144:Int)::((240:Int)::([]:List (Int)))))) ((97:UInt8)::((98:UInt8)::([]:List (UInt8)))) (0:Int) (20:Int))).bind fun r1=>
 ((r1.1).bind fun r2=>
  bif (!(decide ((r1.2:Int)≠(0:Int)))) then ((Go.Fn.vm_Machine__Step r2)).bind fun r3=>
  some ((decide ((r3.1:Int)≠(0:Int))),r3.2)
  else some (true,r2)).bind fun r4=>
 bif r4.1 then some false
 else ((Go.Fn.vm_Machine__Stack r4.2)).bind fun r5=>
 (bif (!(decide (((((List.length r5.1):Nat):Int):Int)≠(1:Int)))) then ((Lf.idx r5.1 (0:Int))).bind fun r6=>
  bif (!(decide ((r6.1:Int)≠(8:Int)))) then ((Lf.idx r5.1 (0:Int))).bind fun r7=>
  bif (!(decide ((r7.2.1:Int)≠(-(1:Int))))) then ((Lf.idx r5.1 (0:Int))).bind fun r8=>
  bif (!(decide ((r8.2.2.1.2.1:Int)≠(7:Int)))) then ((Go.Fn.vm_Machine__Lines r5.2)).bind fun r9=>
  bif (!(decide ((r9:Int)≠(0:Int)))) then (((Go.Fn.vm_run r5.2 (2:Int))).bind fun r10=>
   some r10).bind fun r11=>
  bif (!(decide ((r11.1:Int)≠(2:Int)))) then ((Go.Fn.vm_Machine__Lines r11.2)).bind fun r12=>
  bif (!(decide ((r12:Int)≠(1:Int)))) then ((Go.Fn.vm_Machine__Halted r11.2)).bind fun r13=>
  some (r13,r11.2)
  else some (true,r11.2)
  else some (true,r11.2)
  else some (true,r5.2)
  else some (true,r5.2)
  else some (true,r5.2)
  else some (true,r5.2)
  else some (true,r5.2)).bind fun r14=>
 bif r14.1 then some false
 else ((Go.Fn.vm_Machine__Line r14.2 (0:Int))).bind fun r15=>
 (bif (decide ((r15.2.1:Int)=(0:Int))) then bif (decide (((((List.length r15.1):Nat):Int):Int)=(2:Int))) then ((Lf.idx r15.1 (1:Int))).bind fun r16=>
  bif (decide ((r16.1:List (UInt8))=((98:UInt8)::([]:List (UInt8))))) then ((Go.Fn.vm_Machine__Step r15.2.2)).bind fun r17=>
  bif (decide ((r17.1:Int)=(0:Int))) then ((Go.Fn.vm_Machine__Halted r17.2)).bind fun r18=>
  bif r18 then ((Go.Fn.vm_Machine__Step r17.2)).bind fun r19=>
  some (decide ((r19.1:Int)=(180:Int)))
  else some false
  else some false
  else some false
  else some false
  else some false).bind fun r20=>
 some r20
theorem foliolaw18_awake_eq  :Lf.fnE foliolaw18_awakeCtx foliolaw18_awakeCode foliolaw18_awakeAnn [] [.bool] [.tmp 0] ()=foliolaw18_awake  :=by kernel_rfl
noncomputable def foliolaw18_awakeEnt:Nat×Lf.Entry:=(4,⟨[],[.bool],fun _=>foliolaw18_awake ⟩)
theorem foliolaw18_awake_ok:Lf.EntryOk Go.Proofs.Tryd.prog GG 4 foliolaw18_awakeEnt.2:=
 Lf.fn_ok (c:=foliolaw18_awakeCtx) (code:=foliolaw18_awakeCode) (an:=foliolaw18_awakeAnn) (slots:=[.tmp 0]) (fn:=Go.Proofs.Tryd.f4) (by kernel_rfl) ⟨Tys_ok,Lf.FnsOk.look (.con vm_New_ok (.con vm_Machine__Halted_ok (.con vm_Machine__Step_ok (.con vm_Machine__Stack_ok (.con vm_Machine__Lines_ok (.con vm_Machine__Run_ok (.con vm_Machine__Line_ok .nil))))))),Lf.IpsOk.look .nil,TysEq_ok,TysIm_ok,Lf.IvsOk.look .nil,Lf.FxsOk.look .nil⟩ (by kernel_rfl) (by kernel_rfl) (by kernel_rfl) (by kernel_rfl) (by kernel_rfl) (Nat.le_of_ble_eq_true rfl) (by simp [Lf.Ty.top]) (by simp [Lf.Ty.top]) fun z r h=>(foliolaw18_awake_eq ).trans h
noncomputable def foliolaw18_VmWidthsCtx:Lf.Ctx:=⟨86,Tys,[foliolaw18_awakeEnt,vm_NewEnt,foliolaw18_twinEnt,vm_Machine__HaltedEnt,vm_Machine__StepEnt,vm_Machine__AtEnt,folioref18_SameFramesEnt,vm_Machine__StackEnt],[20,30,13,32,42,15],[],[(7000017, .dead 13 (.dead 15 .unit))],[],TysEq,[],some 4611686018427387904,TysIm,[]⟩
noncomputable def foliolaw18_VmWidthsCode:Go.Code:=(Go.Proofs.Tryd.f3.body).getD .skip
def foliolaw18_VmWidthsAnn:Lf.Ann:=(.seq .no (.seq .no (.seq .no (.seq .no (.seq (.seq (.join (.one .nrm ⟨[],[],[(49, .bool),(15,(.bo 58 (.st xY168))),(13,(.bo 58 (.st xY168)))],[],[]⟩) .no) .no) (.seq (.seq (.bop [13,15] .no) (.loop ⟨[],[(15, .ref 15 [] 0),(13, .ref 13 [] 0)],[(17,(.int .i64))],[(15,58,(.st xY168)),(13,58,(.st xY168))],[]⟩ (.more (.ext 0) ⟨[],[],[],[],[]⟩ (.one .ret ⟨[],[],[(12, .bool)],[],[]⟩)) (.seq (.seq (.join (.one .nrm ⟨[17],[(15, .ref 15 [] 0),(13, .ref 13 [] 0)],[(56, .bool)],[(15,58,(.st xY168)),(13,58,(.st xY168))],[]⟩) .no) .no) (.seq (.seq (.join (.one .nrm ⟨[17],[(15, .ref 15 [] 0),(13, .ref 13 [] 0)],[(85, .bool)],[(15,58,(.st xY168)),(13,58,(.st xY168))],[]⟩) .no) .no) .no)))) .no))))))
noncomputable def foliolaw18_VmWidths (a0:List xT28) (a1:List (Int)) (a2:List (UInt8)) (a3:Int) (a4:Int) (a5:Int):Option (Bool):=
 (Go.Fn.foliolaw18_awake).bind fun r1=>
 bif (!r1) then some false
 else ((Go.Fn.foliolaw18_twin a0)).bind fun r2=>
 ((Lf.app (1:Nat) ([]:List (Int)) a1)).bind fun r3=>
 ((Go.Fn.vm_New r2 r3 a2 a3 a4)).bind fun r4=>
 ((Go.Fn.foliolaw18_twin a0)).bind fun r5=>
 ((Lf.app (1:Nat) ([]:List (Int)) a1)).bind fun r6=>
 ((Go.Fn.vm_New r5 r6 a2 a3 a5)).bind fun r7=>
 (bif (!(decide ((r4.2:Int)≠(0:Int)))) then some ((decide ((r7.2:Int)≠(0:Int))),(r7.1,r4.1))
  else some (true,(r7.1,r4.1))).bind fun r8=>
 bif r8.1 then some true
 else (r8.2.2).bind fun r9=>
 (r8.2.1).bind fun r10=>
 (Lf.loopU (σ:=(Int)×(((Int)×(xT2×xT144))×((Int)×(xT2×xT144)))) (κ:=(Unit)⊕(Bool)) (fun z11=>
   (bif (decide (z11.1<(300:Int))) then ((Go.Fn.vm_Machine__Halted z11.2.2)).bind fun r12=>
    some ((!r12),z11.2)
    else some (false,z11.2)).bind fun r13=>
   bif r13.1 then (((Go.Fn.vm_Machine__Step r13.2.2)).bind fun r14=>
    ((Go.Fn.vm_Machine__Step r13.2.1)).bind fun r15=>
    bif (!(decide ((r14.1:Int)≠r15.1))) then ((Go.Fn.vm_Machine__At r14.2)).bind fun r16=>
    ((Go.Fn.vm_Machine__At r15.2)).bind fun r17=>
    bif (!(decide ((r16:Int)≠r17))) then ((Go.Fn.vm_Machine__Halted r14.2)).bind fun r18=>
    ((Go.Fn.vm_Machine__Halted r15.2)).bind fun r19=>
    bif (!(decide ((r18:Bool)≠r19))) then ((Go.Fn.vm_Machine__Stack r14.2)).bind fun r20=>
    ((Go.Fn.vm_Machine__Stack r15.2)).bind fun r21=>
    ((Go.Fn.folioref18_SameFrames r20.1 r21.1)).bind fun r22=>
    some ((!r22),(r21.2,r20.2))
    else some (true,(r15.2,r14.2))
    else some (true,(r15.2,r14.2))
    else some (true,(r15.2,r14.2))).bind fun r23=>
   bif r23.1 then some (.inr (.inr false))
   else some (.inl ((Go.IntKind.wrap .i64 (z11.1+(1:Int))),r23.2))
   else some (.inr (.inl ()))) ((0:Int),(r10,r9)):Option ((Unit)⊕(Bool))).bind fun r24=>
 Lf.onSum r24 (fun a25=>
 some true) (fun b26=>
 some b26)
theorem foliolaw18_VmWidths_eq (a0:List xT28) (a1:List (Int)) (a2:List (UInt8)) (a3:Int) (a4:Int) (a5:Int):Lf.fnE foliolaw18_VmWidthsCtx foliolaw18_VmWidthsCode foliolaw18_VmWidthsAnn [.val (.sl (.st xY33)), .val (.sl (.int .u8)), .val .str, .val (.int .i64), .val (.int .i64), .val (.int .i64)] [.bool] [.tmp 12] (a0,a1,a2,a3,a4,a5)=foliolaw18_VmWidths a0 a1 a2 a3 a4 a5:=by kernel_rfl
noncomputable def foliolaw18_VmWidthsEnt:Nat×Lf.Entry:=(3,⟨[.val (.sl (.st xY33)), .val (.sl (.int .u8)), .val .str, .val (.int .i64), .val (.int .i64), .val (.int .i64)],[.bool],fun z=>foliolaw18_VmWidths z.1 z.2.1 z.2.2.1 z.2.2.2.1 z.2.2.2.2.1 z.2.2.2.2.2⟩)
theorem foliolaw18_VmWidths_ok:Lf.EntryOk Go.Proofs.Tryd.prog GG 3 foliolaw18_VmWidthsEnt.2:=
 Lf.fn_ok (c:=foliolaw18_VmWidthsCtx) (code:=foliolaw18_VmWidthsCode) (an:=foliolaw18_VmWidthsAnn) (slots:=[.tmp 12]) (fn:=Go.Proofs.Tryd.f3) (by kernel_rfl) ⟨Tys_ok,Lf.FnsOk.look (.con foliolaw18_awake_ok (.con vm_New_ok (.con foliolaw18_twin_ok (.con vm_Machine__Halted_ok (.con vm_Machine__Step_ok (.con vm_Machine__At_ok (.con folioref18_SameFrames_ok (.con vm_Machine__Stack_ok .nil)))))))),Lf.IpsOk.look .nil,TysEq_ok,TysIm_ok,Lf.IvsOk.look .nil,Lf.FxsOk.look .nil⟩ (by kernel_rfl) (by kernel_rfl) (by kernel_rfl) (by kernel_rfl) (by kernel_rfl) (Nat.le_of_ble_eq_true rfl) (by simp [Lf.Ty.top]) (by simp [Lf.Ty.top]) fun z r h=>(foliolaw18_VmWidths_eq z.1 z.2.1 z.2.2.1 z.2.2.2.1 z.2.2.2.2.1 z.2.2.2.2.2).trans h
end Go.Fn
/- The check's run, plainly: what passes is a walk from nothing to nothing. -/
namespace Go.Fn
open Go Go.Lf
def AOp (looks:Int) (s:List UInt8) (i:Ins) (s':List UInt8):Prop:=(i.2.2.1=2∨i.2.2.1=8→i.2.2.2.1<looks)∧(i.2.2.1=1→1≤i.2.2.2.1∧i.2.2.2.1≤s.length∧s'=s.drop i.2.2.2.1.toNat)∧(i.2.2.1≠1→s'=s)
inductive AW (looks:Int):List Int→List UInt8→List Ins→Prop where
 | halt {s:List UInt8} {i:Ins}:i.2.2.1=15→AW looks [] s [i]
 | step {ks ks':List Int} {s s':List UInt8} {i:Ins} {r:List Ins}:i.2.2.1≠15→KS i.2.2.1 ks ks'→AOp looks s i s'→AW looks ks' s' r→AW looks ks s (i::r)
theorem CI.congr {w w':Cw} (h:CI w) (h1:w'.1=w.1) (h2:w'.2.1=w.2.1) (h3:w'.2.2.1=w.2.2.1) (h4:w'.2.2.2.1=w.2.2.2.1):CI w':=by
 have hk:=wks_congr h1 h2
 exact ⟨by rw [h2];exact h.d0,by rw [h2];exact h.d32,by rw [h3,h4,hk];exact h.sh⟩
theorem operand_ok {w:Cw} {i:Ins} (hw:i.2.2.2.2.1.length≤100):Ok (check_walk__operand w i) fun r=>r.2=w∧(r.1=true→i.2.2.1=2∨i.2.2.1=8→i.2.2.2.1<w.2.2.2.2.2.2.2.1):=by
 unfold check_walk__operand
 refine Ok.bind (Q:=fun b:Bool×(Cw×Ins)=>b.2=(w,i)∧(b.1=false→ ¬ (i.2.2.1=2∨i.2.2.1=8))) (Ok.ifs (fun h=>Ok.some ⟨rfl,fun h'=>absurd h (of_decide_eq_false h')⟩) fun h=>Ok.some ⟨rfl,fun h'=>by have:=of_decide_eq_false h';omega⟩) fun b hb=>?_
 obtain ⟨c,b⟩:=b
 obtain ⟨rfl,hb⟩:=hb
 refine Ok.cond (fun _=>Ok.some ⟨rfl,fun h _=>of_decide_eq_true h⟩) fun hc=>?_
 have hno:=hb hc
 refine Ok.bind (Q:=fun b:Bool×(Cw×Ins)=>b.2=(w,i)) (Ok.ifs (fun _=>Ok.some rfl) fun _=>Ok.some rfl) fun b hb=>?_
 obtain ⟨c',b⟩:=b
 obtain rfl:=hb
 refine Ok.cond (fun _=>Ok.some ⟨rfl,fun _ h=>absurd h hno⟩) fun _=>Ok.ifs (fun _=>Ok.some ⟨rfl,fun _ h=>absurd h hno⟩) fun _=>Ok.ifs (fun _=>?_) fun _=>Ok.some ⟨rfl,fun _ h=>absurd h hno⟩
 refine Ok.bind (Q:=Nx (fun p:Cw×Ins=>p.1=w) (fun p:Bool×Cw=>p.2=w)) ?_ fun d hd=>?_
 ·refine Ok.range i.2.2.2.2.1 (by omega) (fun k (s:Cw×Ins)=>s=(w,i)) (fun k x s hx hs=>?_) (fun s hs=>?_) rfl
  ·subst hs
   have hlt:=at_len hx
   exact Ok.yes (by show (k:Int)<((i.2.2.2.2.1.length:Nat):Int);omega) (Ok.bind (Ok.idxE hx) fun _ _=>Ok.ifs (fun _=>Ok.inr rfl) fun _=>Ok.inl ⟨wrapS (by omega),rfl⟩)
  ·subst hs
   exact Ok.no (by show ¬ (((i.2.2.2.2.1.length:Nat):Int)<((i.2.2.2.2.1.length:Nat):Int));omega) (Ok.inr rfl)
 ·cases d with
  | inl p=>exact Ok.onL (Ok.some ⟨hd,fun _ h=>absurd h hno⟩)
  | inr p=>exact Ok.onR (Ok.some ⟨hd,fun _ h=>absurd h hno⟩)
theorem texts_ok {w:Cw} {i:Ins} (hs:w.2.2.2.2.2.2.1.length≤16384) (h1:i.2.2.1=1→1≤i.2.2.2.1):Ok (check_walk__texts w i) fun r=>r.1=true→(r.2.1=w.1∧r.2.2.1=w.2.1∧r.2.2.2.1=w.2.2.1∧r.2.2.2.2.1=w.2.2.2.1∧r.2.2.2.2.2.2.2.2=w.2.2.2.2.2.2.2)∧(i.2.2.1=1→1≤i.2.2.2.1∧i.2.2.2.1≤w.2.2.2.2.2.2.1.length∧r.2.2.2.2.2.2.2.1=w.2.2.2.2.2.2.1.drop i.2.2.2.1.toNat)∧(i.2.2.1≠1→r.2.2.2.2.2.2.2.1=w.2.2.2.2.2.2.1):=by
 unfold check_walk__texts
 refine Ok.ifs (fun h15=>Ok.some fun _=>⟨⟨rfl,rfl,rfl,rfl,rfl⟩,fun h=>by omega,fun _=>rfl⟩) fun _=>Ok.ifs (fun hk=>Ok.ifs (fun _=>Ok.some fun h=>(by cases h)) fun hle=>?_) fun hk=>Ok.some fun _=>⟨⟨rfl,rfl,rfl,rfl,rfl⟩,fun h=>absurd h hk,fun _=>rfl⟩
 have h1:=h1 hk
 refine Ok.bind (Ok.sub (Q:=fun t=>t.length≤16384) (by omega) (by omega) (by omega) (by rw [List.length_take,List.length_drop];omega)) fun t ht=>Ok.bind (plain_tot t (by omega)) fun b _=>?_
 refine Ok.bind (Ok.sub (Q:=fun t=>t=w.2.2.2.2.2.2.1.drop i.2.2.2.1.toNat) (by omega) (by omega) (by omega) ?_) fun t ht=>Ok.some fun _=>⟨⟨rfl,rfl,rfl,rfl,rfl⟩,fun _=>⟨h1,by omega,ht⟩,fun h=>absurd hk h⟩
 rw [List.take_of_length_le (by rw [List.length_drop];omega)]
set_option maxRecDepth 4000 in
theorem run_ok' (b:List Int) (s:List UInt8) (styles topics:Int):Ok (check_run b s styles topics) fun r=>r.2.2.2=0→ ∃ l at_,code_Instrs b=some (l,(at_,0))∧AW styles [] s l∧Instrs l∧s.length≤16384∧l.length≤65537:=by
 unfold check_run
 refine Ok.ifs (fun _=>Ok.some fun h=>(by cases h)) fun hs=>?_
 obtain ⟨⟨l,at_,e⟩,hI,hIn⟩:=instrs_ok b
 refine Ok.bind (Ok.of (Q:=((l,(at_,e))= ·)) hI rfl) fun r hr=>?_
 subst hr
 refine Ok.ifs (fun he=>Ok.some fun h=>absurd h he) fun he=>?_
 obtain rfl:e=0:=Decidable.not_not.1 he
 have hin:Instrs l:=hIn rfl
 dsimp only
 obtain ⟨⟨l',h,hl,hh,hl'⟩,hi,hlen⟩:=hin
 refine Ok.ifs (fun _=>Ok.some fun h=>(by cases h)) fun h64=>?_
 have h64: ¬ ((65536:Int)<IntKind.wrap .i64 (((l.length:Nat):Int) - 1)):=h64
 rw [wrap64 (by omega) (by omega)] at h64
 have hll:l.length=l'.length+1:=by rw [hl,List.length_append];rfl
 refine Ok.bind (Q:=Nx (fun _=>AW styles [] s l) (fun p:List Int×(Int×(Int×(Int×xT7)))=>p.2.2.1≠0)) ?_ fun d hd=>?_
 ·refine Ok.range l (by omega) (fun j (z:List Int×(Int×(Int×((Int×xT7)×Cw))))=>z.1.length=j∧CI z.2.2.2.2∧z.2.2.2.2.2.2.2.2.2.2.2.1=styles∧z.2.2.2.2.2.2.2.2.2.2.1.length≤16384∧(j<l.length→AW styles (wks z.2.2.2.2) z.2.2.2.2.2.2.2.2.2.2.1 (l.drop j)→AW styles [] s l)∧(j=l.length→AW styles [] s l)) (fun j i z hx hz=>?_) (fun z hz=>?_) ?_
  ·obtain ⟨hz1,hz2,hz3,hz4,hz5,_⟩:=hz
   obtain ⟨ds,za,ze,need,w⟩:=z
   dsimp only at hz1 hz2 hz3 hz4 hz5 ⊢
   have hlt:=at_len hx
   have hdrop:l.drop j=i::l.drop (j+1):=by
    rw [List.drop_eq_getElem_cons hlt,(List.getElem?_eq_some_iff.1 hx).2]
   have hii:=hi i (List.mem_of_getElem? hx)
   refine Ok.yes (by omega) (Ok.bind (Ok.idxE hx) fun y hy=>?_)
   subst hy
   refine Ok.bind (Ok.appE (by simp only [List.length_cons,List.length_nil];omega)) fun ds' hds=>?_
   refine Ok.bind (operand_ok (w:=w) hii.2) fun r5 hr5=>?_
   obtain ⟨c5,r5⟩:=r5
   obtain ⟨rfl,hop⟩:=hr5
   cases c5 with
   | false=>exact Ok.inr (show (161:Int)≠0 by decide)
   | true=>
    have hz4:r5.2.2.2.2.2.2.1.length≤16384:=hz4
    refine Ok.bind (place_ok hz2) fun r6 hr6=>?_
    obtain ⟨c6,r6⟩:=r6
    cases c6 with
    | false=>exact Ok.inr (show (170:Int)≠0 by decide)
    | true=>
     have hr6:=hr6 rfl
     have hst:r6.2.2.2.2.2.2=r5.2.2.2.2.2.2:=by
      rcases hr6 with ⟨h,_⟩ | h
      ·exact congrArg (fun w:Cw=>w.2.2.2.2.2.2) h
      ·exact h.2.1
     have hci:CI r6:=by
      rcases hr6 with ⟨h,_⟩ | h
      ·have h:r6=r5:=h
       rw [h];exact hz2
      ·exact h.1
     refine Ok.bind (texts_ok (w:=r6) (by rw [hst];exact hz4) hii.1) fun r7 hr7=>?_
     obtain ⟨c7,r7⟩:=r7
     cases c7 with
     | false=>exact Ok.inr (show (171:Int)≠0 by decide)
     | true=>
      obtain ⟨⟨t1,t2,t3,t4,t5⟩,t6,t7⟩:=hr7 rfl
      dsimp only at t1 t2 t3 t4 t5 t6 t7
      refine Ok.bind (Q:=fun q:List Int×((Int×xT7)×(Cw×Ins))=>q.1=ds'∧q.2.2=(r7,i)) ?_ fun q hq=>?_
      ·refine Ok.bind (Q:=fun q:Bool×(List Int×((Int×xT7)×(Cw×Ins)))=>q.2.1=ds'∧q.2.2.2=(r7,i)) (Ok.ifs (fun _=>Ok.some ⟨rfl,rfl⟩) fun _=>Ok.some ⟨rfl,rfl⟩) fun q hq=>?_
       exact Ok.cond (fun _=>Ok.some hq) fun _=>Ok.ifs (fun _=>Ok.some hq) fun _=>Ok.some hq
      ·obtain ⟨qa,qn,q⟩:=q
       obtain ⟨rfl,rfl⟩:=hq
       dsimp only
       have hci':CI r7:=hci.congr t1 t2 t3 t4
       have hwk:wks r7=wks r6:=wks_congr t1 t2
       have hs':r7.2.2.2.2.2.2.1.length≤16384:=by
        by_cases hk:i.2.2.1=1
        ·rw [(t6 hk).2.2,List.length_drop,hst];omega
        ·rw [t7 hk,hst];exact hz4
       have hop':AOp styles r5.2.2.2.2.2.2.1 i r7.2.2.2.2.2.2.1:=by
        refine ⟨fun h=>by rw [← hz3];exact hop rfl h,fun hk=>?_,fun hk=>?_⟩
        ·have:=t6 hk
         rw [hst] at this
         exact this
        ·rw [t7 hk,hst]
       refine Ok.inl ⟨wrapS (by omega),?_,hci'.congr rfl rfl rfl rfl,?_,hs',fun hj hA=>?_,fun hj=>?_⟩
       ·have hds:qa=ds++[_]:=hds
        show qa.length=j+1
        rw [hds,List.length_append,hz1];rfl
       ·show r7.2.2.2.2.2.2.2.1=styles
        rw [t5,hst];exact hz3
       ·have hA:AW styles (wks r7) r7.2.2.2.2.2.2.1 (l.drop (j+1)):=hA
        have hne:i.2.2.1≠15:=by
         refine hl' i ?_
         have hx':=hx
         rw [hl,List.getElem?_append_left (by omega)] at hx'
         exact List.mem_of_getElem? hx'
        refine hz5 (by omega) ?_
        rw [hdrop]
        rcases hr6 with ⟨_,h,_⟩ | h
        ·exact absurd h hne
        ·exact .step hne (by rw [hwk];exact h.2.2.2) hop' hA
       ·have hi15:i.2.2.1=15:=by
         have hx':=hx
         rw [hl,List.getElem?_append_right (by omega),show j - l'.length=0 by omega] at hx'
         injection hx' with hx'
         rw [← hx'];exact hh
        refine hz5 (by omega) ?_
        rw [hdrop,hj,List.drop_length]
        rcases hr6 with ⟨_,_,h⟩ | h
        ·have h:wks r5=[]:=h
         rw [h]
         exact .halt hi15
        ·exact absurd hi15 h.2.2.1
  ·obtain ⟨_,_,_,_,_,hz6⟩:=hz
   exact Ok.no (by show ¬ ((l.length:Int)<_);omega) (Ok.inr (hz6 rfl))
  ·refine ⟨rfl,⟨by show (0:Int)≤0;omega,by show (0:Int)≤32;omega, .inr ⟨by show (0:Int)≠1;decide,rfl,?_⟩⟩,rfl,by show s.length≤_;omega,fun _ h=>h,fun h=>by omega⟩
   exact ⟨by show (0:Nat)≤8;omega,fun k hk=>(by cases hk)⟩
 ·cases d with
  | inl p=>exact Ok.onL (Ok.some fun _=>⟨l,at_,hI,hd,⟨⟨l',h,hl,hh,hl'⟩,hi,hlen⟩,by omega,by omega⟩)
  | inr p=>exact Ok.onR (Ok.some fun h=>absurd h hd)
end Go.Fn
/- The machine's small steps, plainly. -/
namespace Go.Fn
open Go Go.Lf
abbrev MT:Type:=(Int)×(xT2×xT144)
abbrev Fr:Type:=Int×xT9
abbrev Lok:Type:=Int×(Int×Unit)
abbrev mLooks (m:MT):=m.2.1
abbrev mInstrs (m:MT):List Ins:=m.2.2.1
abbrev mText (m:MT):List UInt8:=m.2.2.2.1
abbrev mWidth (m:MT):Int:=m.2.2.2.2.1
abbrev mPc (m:MT):Int:=m.2.2.2.2.2.1
abbrev mSteps (m:MT):Int:=m.2.2.2.2.2.2.1
abbrev mHalted (m:MT):Bool:=m.2.2.2.2.2.2.2.1
abbrev mDeep (m:MT):Int:=m.2.2.2.2.2.2.2.2.2.1
abbrev mLists (m:MT):List (Int×(Int×Unit)):=m.2.2.2.2.2.2.2.2.2.2.1
abbrev mFlow (m:MT):List Gl:=m.2.2.2.2.2.2.2.2.2.2.2.1
abbrev mCells (m:MT):List (List Gl):=m.2.2.2.2.2.2.2.2.2.2.2.2.1
abbrev mMargin (m:MT):Int:=m.2.2.2.2.2.2.2.2.2.2.2.2.2.2.2.2.1
abbrev mMarker (m:MT):List UInt8:=m.2.2.2.2.2.2.2.2.2.2.2.2.2.2.2.2.2.1
abbrev mMarkerAt (m:MT):Int:=m.2.2.2.2.2.2.2.2.2.2.2.2.2.2.2.2.2.2.1
abbrev mLinks (m:MT):List (Int×(Int×Unit)):=m.2.2.2.2.2.2.2.2.2.2.2.2.2.2.2.2.2.2.2.2.2.1
abbrev mLines (m:MT):List (List Gl):=m.2.2.2.2.2.2.2.2.2.2.2.2.2.2.2.2.2.2.2.2.2.2.1
def mst (m:MT):List Fr:=arL xY34 32 m.2.2.2.2.2.2.2.2.1
theorem mst_len (m:MT):(mst m).length=32:=arL_len
abbrev wl (m:MT) (ls:List (List Gl)) (mo:Bool):MT:=u22 m (ls,(mo,m.2.2.2.2.2.2.2.2.2.2.2.2.2.2.2.2.2.2.2.2.2.2.2.2))
abbrev wm (m:MT) (mk:List UInt8):MT:=u17 m (mk,m.2.2.2.2.2.2.2.2.2.2.2.2.2.2.2.2.2.2)
abbrev wf (m:MT) (fl:List Gl):MT:=u11 m (fl,m.2.2.2.2.2.2.2.2.2.2.2.2)
def LnOk (ls:List (List Gl)):Prop:=ls.length≤2000∧ ∀ x∈ls,x.length≤5000
theorem tell_ok {m:MT} {line:List Gl} (h:LnOk (mLines m)) (hl:line.length≤5000):Ok (vm_Machine__tell m line) fun m'=> ∃ ls mo,m'=wl m ls mo∧LnOk ls:=by
 unfold vm_Machine__tell
 refine Ok.ifs (fun _=>Ok.some ⟨_,true,rfl,h⟩) fun hlt=>?_
 have hlt: ¬ ((2000:Int)≤((mLines m).length:Int)):=hlt
 refine Ok.bind (Ok.appE (by show ((mLines m).length+_)*_≤_;simp only [List.length_cons,List.length_nil];omega)) fun ls hls=>Ok.some ⟨ls,_,rfl,?_,fun x hx=>?_⟩
 ·rw [hls,List.length_append];show (mLines m).length+1≤_;omega
 ·rw [hls] at hx
  rcases List.mem_append.1 hx with hx | hx
  ·exact h.2 x hx
  ·rw [List.mem_singleton.1 hx];exact hl
theorem vplain_ok:Ok vm_plain fun _=>True:=⟨_,rfl,trivial⟩
theorem pad_ok {line:List Gl} {to:Int} (hg: ∀ g∈line,GW g) (hl:line.length≤100000) (ht:to≤1000):Ok (vm_pad line to) fun r=>r.length≤line.length+1000∧ ∀ g∈r,GW g:=by
 unfold vm_pad
 have hb:=sumW_bd line hg
 refine Ok.bind (wide_ok (by omega) hg) fun n hn=>Ok.ends ?_
 subst hn
 refine Ok.loop (fun k (z:Int×List Gl)=>(k=(to - z.1).toNat∧0≤z.1∧z.1≤1000000)∧(z.2.length+k≤line.length+1000)∧ ∀ g∈z.2,GW g) (fun k z hz=>?_) (to - sumW line).toNat _ (by omega) ⟨⟨rfl,by show 0≤sumW line;omega,by show sumW line≤_;omega⟩,by show line.length+_≤_;omega,hg⟩
 obtain ⟨n,l⟩:=z
 obtain ⟨⟨hz1,hz2,hz3⟩,hz4,hz5⟩:=hz
 dsimp only at hz1 hz2 hz3 hz4 hz5 ⊢
 refine Ok.ifs (fun hlt=>Ok.bind vplain_ok fun p _=>?_) fun _=>Ok.inr ⟨by omega,hz5⟩
 have e:IntKind.wrap .i64 (n+1)=n+1:=wrap64 (by omega) (by omega)
 refine Ok.bind (Ok.appE (by simp only [List.length_cons,List.length_nil];omega)) fun l' hl'=>Ok.inl ⟨k - 1,by omega,⟨?_,?_,?_⟩,?_,?_⟩
 ·show k - 1=(to - IntKind.wrap .i64 (n+1)).toNat
  rw [e];omega
 ·show 0≤IntKind.wrap .i64 (n+1)
  rw [e];omega
 ·show IntKind.wrap .i64 (n+1)≤_
  rw [e];omega
 ·show l'.length+_≤_
  rw [hl',List.length_append];simp only [List.length_cons,List.length_nil];omega
 ·show ∀ g∈l',GW g
  rw [hl']
  intro g hg
  rcases List.mem_append.1 hg with hg | hg
  ·exact hz5 g hg
  ·rw [List.mem_singleton.1 hg];unfold GW;simp
theorem marked_ok {m:MT} (h1:(mMarker m).length≤196) (h2:mMarkerAt m≤196):Ok (vm_Machine__marked m) fun r=>r.2=wm m []∧r.1.length≤2000∧ ∀ g∈r.1,GW g:=by
 unfold vm_Machine__marked
 refine Ok.bind (pad_ok (line:=[]) (by simp) (by simp) (by show mMarkerAt m≤1000;omega)) fun l hl=>?_
 have hl1:l.length≤1000:=by have:=hl.1;simp only [List.length_nil] at this;omega
 refine Ok.bind (Q:=fun r:List Gl×MT=>r.2=m∧r.1.length≤2000∧ ∀ g∈r.1,GW g) ?_ fun r hr=>Ok.some ?_
 ·refine Ok.loop (fun k (z:List Gl×((List UInt8×Int)×MT))=> ∃ p:Nat,z.2=((mMarker m,(p:Int)),m)∧p+k=(mMarker m).length∧z.1.length≤1000+p∧ ∀ g∈z.1,GW g) (fun k z hz=>?_) (mMarker m).length _ (by omega) ⟨0,rfl,by omega,by omega,hl.2⟩
  obtain ⟨l,z⟩:=z
  obtain ⟨p,rfl,hp,hl,hg⟩:=hz
  dsimp only at hl hg ⊢
  refine Ok.ifs (fun hlt=>Ok.bind vplain_ok fun c _=>?_) fun _=>Ok.inr ⟨rfl,by show l.length≤_;omega,hg⟩
  obtain ⟨w,hw,hw1,hw2⟩:=runeW_ok (mMarker m) p (by omega)
  refine Ok.bind (Ok.appE (by simp only [List.length_cons,List.length_nil];omega)) fun l' hl'=>Ok.inl ⟨k - w,by omega,p+w,?_,by omega,?_,?_⟩
  ·show ((mMarker m,(p:Int)+runeW (mMarker m) (p:Int)),m)=_
   rw [hw];rfl
  ·show l'.length≤_
   rw [hl',List.length_append];simp only [List.length_cons,List.length_nil];omega
  ·show ∀ g∈l',GW g
   rw [hl']
   intro g hg'
   rcases List.mem_append.1 hg' with hg' | hg'
   ·exact hg g hg'
   ·rw [List.mem_singleton.1 hg'];unfold GW;simp
 ·obtain ⟨r1,r2⟩:=r
  obtain ⟨rfl,hr⟩:=hr
  exact ⟨rfl,hr⟩
theorem settle_ok {m:MT} (h:LnOk (mLines m)) (h1:(mMarker m).length≤196) (h2:mMarkerAt m≤196):Ok (vm_Machine__settle m) fun m'=> ∃ mk ls mo,m'=wl (wm m mk) ls mo∧LnOk ls∧mk.length≤196:=by
 unfold vm_Machine__settle
 refine Ok.ifs (fun _=>?_) fun _=>Ok.some ⟨_,_,_,rfl,h,h1⟩
 refine Ok.bind (marked_ok h1 h2) fun r hr=>?_
 obtain ⟨r1,r2⟩:=r
 obtain ⟨rfl,hr,_⟩:=hr
 refine Ok.ends ((tell_ok (m:=wm m []) h (by show r1.length≤_;have:r1.length≤2000:=hr;omega)).imp fun m' hm'=>?_)
 obtain ⟨ls,mo,rfl,hls⟩:=hm'
 exact ⟨[],ls,mo,rfl,hls,by simp⟩
theorem mtop_ok {m:MT} (h0:0≤mDeep m) (h1:mDeep m≤32):Ok (vm_Machine__top m) fun _=>True:=by
 unfold vm_Machine__top
 have e:IntKind.wrap .i64 (mDeep m - 1)=mDeep m - 1:=wrap64 (by omega) (by omega)
 refine Ok.bind (Q:=fun _=>True) ?_ fun _ _=>Ok.onSum (fun _ _=>Ok.ends vplain_ok) fun _ _=>Ok.some trivial
 refine Ok.loop (fun k (z:Int×Lok)=>k=(z.1+1).toNat∧ -1≤z.1∧z.1<32) (fun k z hz=>?_) (mDeep m).toNat _ (by omega) ⟨by show _=(IntKind.wrap .i64 (mDeep m - 1)+1).toNat;rw [e];omega,by show -1≤IntKind.wrap .i64 (mDeep m - 1);rw [e];omega,by show IntKind.wrap .i64 (mDeep m - 1)<32;rw [e];omega⟩
 obtain ⟨n,z⟩:=z
 obtain ⟨hz1,hz2,hz3⟩:=hz
 dsimp only at hz1 hz2 hz3 ⊢
 refine Ok.ifs (fun hn=>?_) fun _=>Ok.inr trivial
 have hl:=mst_len m
 have hi: ∀ {Q:Fr→Prop},(∀ y,Q y)→Ok (idx (mst m) n) Q:=fun hq=>Ok.at_ hn (by omega) (hq _)
 refine Ok.bind (hi (Q:=fun _=>True) fun _=>trivial) fun f _=>Ok.bind (Q:=fun q:Bool×Lok=>True) ?_ fun q _=>Ok.cond (fun _=>Ok.bind (hi (Q:=fun _=>True) fun _=>trivial) fun _ _=>Ok.inr trivial) fun _=>Ok.inl ⟨k - 1,by omega,?_,?_,?_⟩
 ·repeat' first | exact Ok.some trivial | refine Ok.cond (fun _=>?_) (fun _=>?_)
 ·show k - 1=(IntKind.wrap .i64 (n - 1)+1).toNat
  rw [wrap64 (by omega) (by omega)];omega
 ·show -1≤IntKind.wrap .i64 (n - 1)
  rw [wrap64 (by omega) (by omega)];omega
 ·show IntKind.wrap .i64 (n - 1)<32
  rw [wrap64 (by omega) (by omega)];omega
theorem apply_ok (l:Lok) (c:Chg):Ok (style_Apply l c) fun _=>True:=by
 unfold style_Apply
 exact Ok.bind (Q:=fun _=>True) (Ok.ifs (fun _=>Ok.some trivial) fun _=>Ok.some trivial) fun _ _=>Ok.some trivial
theorem styled_ok {m:MT} {l:Lok} {n:Int} (h:n<(mLooks m).length):Ok (vm_Machine__styled m l n) fun _=>True:=by
 unfold vm_Machine__styled
 exact Ok.ifs (fun _=>Ok.some trivial) fun hn=>Ok.bind (Ok.at_ (Q:=fun _=>True) (by omega) (by show n.toNat<(mLooks m).length;omega) trivial) fun c _=>Ok.ends (apply_ok l c)
abbrev wp (m:MT) (f:Fr):MT:=u8 m (arS xY34 32 m.2.2.2.2.2.2.2.2.1 (mDeep m).toNat f,(mDeep m+1,m.2.2.2.2.2.2.2.2.2.2))
abbrev wo (m:MT):MT:=u8 m (arS xY34 32 m.2.2.2.2.2.2.2.2.1 ((mDeep m).toNat - 1) (0,(0,((0,(0,())),()))),(mDeep m - 1,m.2.2.2.2.2.2.2.2.2.2))
theorem push_ok {m:MT} {k n:Int} {l:Lok} (h0:0≤mDeep m) (h1:mDeep m<32):Ok (vm_Machine__push m k n l) (· =wp m (k,(n,(l,())))):=by
 unfold vm_Machine__push
 have e:IntKind.wrap .i64 (mDeep m+1)=mDeep m+1:=wrap64 (by omega) (by omega)
 refine Ok.bind (Ok.chk (Q:=((mDeep m).toNat= ·)) h0 h1 rfl) fun j hj=>?_
 subst hj
 refine Ok.bind (Ok.nth (l:=mst m) (Q:=fun _=>True) (by rw [mst_len];omega) trivial) fun _ _=>Ok.some ?_
 rw [e]
theorem pop_ok {m:MT} (h0:0<mDeep m) (h1:mDeep m≤32):Ok (vm_Machine__pop m) fun r=>r.2=wo m∧ ∀ hj:(mDeep m).toNat - 1<(mst m).length,r.1=(mst m)[(mDeep m).toNat - 1]:=by
 unfold vm_Machine__pop
 have e:IntKind.wrap .i64 (mDeep m - 1)=mDeep m - 1:=wrap64 (by omega) (by omega)
 have hl:=mst_len m
 refine Ok.bind (Ok.chk (Q:=(· =(mDeep m).toNat - 1)) (by rw [e];omega) (by rw [e];omega) (by rw [e];omega)) fun j hj=>?_
 subst hj
 refine Ok.bind (Ok.nth (l:=mst m) (Q:=fun f=> ∀ hj:(mDeep m).toNat - 1<(mst m).length,f=(mst m)[(mDeep m).toNat - 1]) (by omega) fun _=>rfl) fun f hf=>?_
 refine Ok.bind (Ok.chk (Q:=(· =(mDeep m).toNat - 1)) (by rw [e];omega) (by rw [e];omega) (by rw [e];omega)) fun j hj=>?_
 subst hj
 refine Ok.bind (Ok.nth (l:=mst m) (Q:=fun _=>True) (by omega) trivial) fun _ _=>Ok.some ⟨?_,hf⟩
 rw [e]
end Go.Fn
/- The machine's paragraphs, rows and markers, plainly. -/
namespace Go.Fn
open Go Go.Lf
abbrev mInRow (m:MT):Bool:=m.2.2.2.2.2.2.2.2.2.2.2.2.2.2.2.1
abbrev W (m:MT) (fl:List Gl) (ce:List (List Gl)) (ir:Bool) (mg:Int) (mk:List UInt8) (ma:Int) (ls:List (List Gl)) (mo:Bool):MT:=u11 m (fl,(ce,(m.2.2.2.2.2.2.2.2.2.2.2.2.2.1,(m.2.2.2.2.2.2.2.2.2.2.2.2.2.2.1,(ir,(mg,(mk,(ma,(m.2.2.2.2.2.2.2.2.2.2.2.2.2.2.2.2.2.2.2.1,(m.2.2.2.2.2.2.2.2.2.2.2.2.2.2.2.2.2.2.2.2.1,(m.2.2.2.2.2.2.2.2.2.2.2.2.2.2.2.2.2.2.2.2.2.1,(ls,(mo,m.2.2.2.2.2.2.2.2.2.2.2.2.2.2.2.2.2.2.2.2.2.2.2.2)))))))))))))
theorem W_eq (m:MT):m=W m (mFlow m) (mCells m) (mInRow m) (mMargin m) (mMarker m) (mMarkerAt m) (mLines m) m.2.2.2.2.2.2.2.2.2.2.2.2.2.2.2.2.2.2.2.2.2.2.2.1:=rfl
theorem W_lines (m:MT) (fl ce ir mg mk ma ls mo) (ls':List (List Gl)) (mo':Bool):wl (W m fl ce ir mg mk ma ls mo) ls' mo'=W m fl ce ir mg mk ma ls' mo':=rfl
theorem W_marker (m:MT) (fl ce ir mg mk ma ls mo) (mk':List UInt8):wm (W m fl ce ir mg mk ma ls mo) mk'=W m fl ce ir mg mk' ma ls mo:=rfl
theorem wf_W (m:MT) (fl:List Gl):wf m fl=W m fl (mCells m) (mInRow m) (mMargin m) (mMarker m) (mMarkerAt m) (mLines m) m.2.2.2.2.2.2.2.2.2.2.2.2.2.2.2.2.2.2.2.2.2.2.2.1:=rfl
theorem mend_ok {m:MT} (h:LnOk (mLines m)) (h1:(mMarker m).length≤196) (h2:mMarkerAt m≤196) (h3:mMargin m≤196) (h4:(mFlow m).length≤100000000) (h5:(mCells m).length≤1000000):Ok (vm_Machine__end m) fun m'=> ∃ c mk ls mo,m'=W m [] c (mInRow m) (mMargin m) mk (mMarkerAt m) ls mo∧LnOk ls∧mk.length≤196∧(c=mCells m∨c=mCells m++[mFlow m]):=by
 unfold vm_Machine__end
 refine Ok.cond (fun _=>?_) fun _=>?_
 ·refine Ok.bind (Ok.appE (by show ((mCells m).length+_)*_≤_;simp only [List.length_cons,List.length_nil];omega)) fun c hc=>Ok.some ⟨c,mMarker m,mLines m,_,rfl,h,h1, .inr hc⟩
 ·refine Ok.bind (fill_ok h4) fun r2 hr2=>?_
  have hr21:r2.1.length≤3*(mFlow m).length+2:=hr2.1
  refine Ok.bind (Q:=fun m':MT=> ∃ mk ls mo,m'=W m [] (mCells m) (mInRow m) (mMargin m) mk (mMarkerAt m) ls mo∧LnOk ls∧mk.length≤196) ?_ fun r4 hr4=>Ok.ends ?_
  ·refine Ok.ifs (fun _=>Ok.ends ((settle_ok (m:=wf m []) h h1 h2).imp fun m' hm'=>?_)) fun _=>Ok.some ⟨mMarker m,mLines m,_,wf_W m [],h,h1⟩
   obtain ⟨mk,ls,mo,rfl,hls⟩:=hm'
   exact ⟨mk,ls,mo,by rw [wf_W,W_marker,W_lines],hls⟩
  ·refine Ok.range r2.1 (by omega) (fun _ (m':MT)=> ∃ mk ls mo,m'=W m [] (mCells m) (mInRow m) (mMargin m) mk (mMarkerAt m) ls mo∧LnOk ls∧mk.length≤196) (fun i x m' hx hm'=>?_) (fun m' hm'=>?_) hr4
   ·have hlt:=lt_len hx
    obtain ⟨mk,ls,mo,rfl,hls,hmk⟩:=hm'
    refine Ok.yes (by show (i:Int)<_;omega) (Ok.bind (Ok.idxE hx) fun y hy=>?_)
    subst hy
    have hxl:=hr2.2 x (mem_at hx)
    have hx200:=hxl.1.len
    have hw200:=hxl.2.2
    refine Ok.bind (Q:=fun r8:List Gl×MT=>(∃ mk',r8.2=W m [] (mCells m) (mInRow m) (mMargin m) mk' (mMarkerAt m) ls mo∧mk'.length≤196)∧r8.1.length≤2000∧ ∀ g∈r8.1,GW g) ?_ fun r8 hr8=>?_
    ·refine Ok.ifs (fun _=>Ok.ends ((marked_ok (m:=W m [] (mCells m) (mInRow m) (mMargin m) mk (mMarkerAt m) ls mo) hmk h2).imp fun r hr=>⟨⟨[],by rw [hr.1,W_marker],by simp⟩,hr.2⟩)) fun _=>Ok.some ⟨⟨mk,rfl,hmk⟩,by simp,by simp⟩
    ·obtain ⟨l8,m8⟩:=r8
     obtain ⟨⟨mk',rfl,hmk'⟩,hl8,hg8⟩:=hr8
     refine Ok.bind (pad_ok hg8 (by show l8.length≤_;have:l8.length≤2000:=hl8;omega) (by show mMargin m≤1000;omega)) fun r9 hr9=>?_
     have hr9:r9.length≤l8.length+1000:=hr9.1
     have hl8:l8.length≤2000:=hl8
     refine Ok.bind (Ok.appE (by omega)) fun r10 hr10=>?_
     refine Ok.bind (tell_ok (m:=W m [] (mCells m) (mInRow m) (mMargin m) mk' (mMarkerAt m) ls mo) (line:=r10) hls (by rw [hr10,List.length_append];omega)) fun m2 hm2=>?_
     obtain ⟨ls2,mo2,rfl,hls2⟩:=hm2
     exact Ok.inl ⟨wrapS (by omega),mk',ls2,mo2,W_lines _ _ _ _ _ _ _ _ _ _ _,hls2,hmk'⟩
   ·obtain ⟨mk,ls,mo,rfl,hls,hmk⟩:=hm'
    exact Ok.no (by show ¬ ((r2.1.length:Int)<_);omega) (Ok.inr ⟨mCells m,mk,ls,mo,rfl,hls,hmk, .inl rfl⟩)
theorem mrow_ok {m:MT} (h:LnOk (mLines m)) (h1: ∀ c∈mCells m,c.length≤100000):Ok (vm_Machine__row m) fun m'=> ∃ c ir ls mo,m'=W m (mFlow m) c ir (mMargin m) (mMarker m) (mMarkerAt m) ls mo∧LnOk ls∧(c=mCells m∨c=[]):=by
 unfold vm_Machine__row
 refine Ok.cond (fun _=>Ok.some ⟨mCells m,_,mLines m,_,W_eq m,h, .inl rfl⟩) fun _=>?_
 refine Ok.bind (row_ok (B:=100000) (by omega) h1) fun r1 hr1=>?_
 refine Ok.bind (Q:=fun m':MT=> ∃ ls mo,m'=wl m ls mo∧LnOk ls) ?_ fun m' hm'=>Ok.some ?_
 ·refine Ok.range r1.1 (by have:=hr1.1;omega) (fun _ (m':MT)=> ∃ ls mo,m'=wl m ls mo∧LnOk ls) (fun i x m' hx hm'=>?_) (fun m' hm'=>?_) ⟨mLines m,_,rfl,h⟩
  ·have hlt:=lt_len hx
   obtain ⟨ls,mo,rfl,hls⟩:=hm'
   refine Ok.yes (by show (i:Int)<_;omega) (Ok.bind (Ok.idxE hx) fun y hy=>?_)
   subst hy
   have hxl:=(hr1.2 x (mem_at hx)).len
   refine Ok.bind (tell_ok (m:=wl m ls mo) hls (by omega)) fun m2 hm2=>?_
   obtain ⟨ls2,mo2,rfl,hls2⟩:=hm2
   exact Ok.inl ⟨wrapS (by omega),ls2,mo2,rfl,hls2⟩
  ·exact Ok.no (by show ¬ ((r1.1.length:Int)<_);omega) (Ok.inr hm')
 ·obtain ⟨ls,mo,rfl,hls⟩:=hm'
  exact ⟨[],false,ls,mo,rfl,hls, .inr rfl⟩
theorem wrap_bd (x:Int): -9223372036854775808≤IntKind.wrap .i64 x∧IntKind.wrap .i64 x≤9223372036854775807:=by
 simp only [IntKind.wrap]
 simp [IntKind.bits,IntKind.signed]
 omega
abbrev wk (m:MT) (st:(arT xY34 32).den) (mg:Int) (mk:List UInt8) (ma:Int):MT:=u8 m (st,(m.2.2.2.2.2.2.2.2.2.1,(m.2.2.2.2.2.2.2.2.2.2.1,(m.2.2.2.2.2.2.2.2.2.2.2.1,(m.2.2.2.2.2.2.2.2.2.2.2.2.1,(m.2.2.2.2.2.2.2.2.2.2.2.2.2.1,(m.2.2.2.2.2.2.2.2.2.2.2.2.2.2.1,(m.2.2.2.2.2.2.2.2.2.2.2.2.2.2.2.1,(mg,(mk,(ma,m.2.2.2.2.2.2.2.2.2.2.2.2.2.2.2.2.2.2.2)))))))))))
theorem mark_num {s:List UInt8} {p w:Int} (hs:s.length≤100) (hp:0≤p∧p≤196) (hw:10≤w∧w≤200):min (IntKind.wrap .i64 (IntKind.wrap .i64 (p+((s.length:Nat):Int))+1)) (IntKind.wrap .i64 (w - 4))=min (p+s.length+1) (w - 4):=by
 rw [wrap64 (x:=p+((s.length:Nat):Int)) (by omega) (by omega),wrap64 (x:=p+((s.length:Nat):Int)+1) (by omega) (by omega),wrap64 (x:=w - 4) (by omega) (by omega)]
theorem mark_sub {s:List UInt8} {p w:Int} {Q:List UInt8→Prop} (hs:s.length≤100) (hp:0≤p∧p≤196) (hw:10≤w∧w≤200) (hq: ∀ t:List UInt8,t.length≤196→(t.length:Int)≤min (p+s.length+1) (w - 4)→Q t):Ok (sub s (IntKind.wrap .i64 (((s.length:Nat):Int) - min ((s.length:Nat):Int) (min (IntKind.wrap .i64 (IntKind.wrap .i64 (p+((s.length:Nat):Int))+1)) (IntKind.wrap .i64 (w - 4))))) ((s.length:Nat):Int)) Q:=by
 rw [mark_num hs hp hw,wrap64 (by omega) (by omega)]
 refine Ok.sub (by omega) (by omega) (by omega) (hq _ ?_ ?_)
 ·rw [List.length_take,List.length_drop];omega
 ·rw [List.length_take,List.length_drop];omega
theorem mmark_ok {m:MT} (h1:mLists m≠[]) (h2: ∀ p∈mLists m,0≤p.1∧p.1≤196) (hl:(mLists m).length≤1000) (h0:0<mDeep m) (h32:mDeep m≤32) (hw:10≤mWidth m∧mWidth m≤200):Ok (vm_Machine__mark m) fun m'=> ∃ st mg mk ma,m'=wk m st mg mk ma∧(0≤mg∧mg≤196)∧mk.length≤196∧ma≤196∧ ∀ d,kso (arL xY34 32 st:List Fr) d=kso (mst m) d:=by
 unfold vm_Machine__mark
 have hpos:0<(mLists m).length:=List.length_pos_iff.2 h1
 have e1:IntKind.wrap .i64 (((mLists m).length:Int) - 1)=(mLists m).length - 1:=wrap64 (by omega) (by omega)
 have e2:IntKind.wrap .i64 (mDeep m - 1)=mDeep m - 1:=wrap64 (by omega) (by omega)
 have hml:=mst_len m
 have hd:(mDeep m).toNat - 1<(mst m).length:=by omega
 refine Ok.bind (Ok.chk (Q:=fun j=>j<(mLists m).length) (by rw [e1];omega) (by rw [e1];show _<((mLists m).length:Int);omega) (by rw [e1];omega)) fun r1 hr1=>?_
 refine Ok.bind (Ok.chk (Q:=(· =(mDeep m).toNat - 1)) (by rw [e2];omega) (by rw [e2];omega) (by rw [e2];omega)) fun r2 hr2=>?_
 subst hr2
 refine Ok.bind (Ok.nth (l:=mst m) (Q:=fun _=>True) hd trivial) fun r3 _=>?_
 refine Ok.bind (Ok.nth (l:=mst m) (Q:=fun f=>f=(mst m)[(mDeep m).toNat - 1]) hd rfl) fun r4 hr4=>?_
 have hset: ∀ (f:Fr) d,f.1=r4.1→kso (arL xY34 32 (arS xY34 32 m.2.2.2.2.2.2.2.2.1 ((mDeep m).toNat - 1) f):List Fr) d=kso (mst m) d:=fun f d hf=>by
  refine (congrArg (fun l:List Fr=>kso l d) arL_arS).trans ?_
  exact kso_keep hd (by rw [hf,hr4];rfl)
 have hln: ∀ {Q:Int×(Int×Unit)→Prop},(∀ p,0≤p.1∧p.1≤196→Q p)→Ok (nth (mLists m) r1) Q:=fun hq=>Ok.nth hr1 (hq _ (h2 _ (List.getElem_mem hr1)))
 have hma: ∀ {p x:Int},p≤196→min p x≤196:=fun h=>by omega
 refine Ok.bind (hln (Q:=fun _=>True) fun _ _=>trivial) fun r5 _=>Ok.ifs (fun _=>?_) fun _=>?_
 ·refine Ok.bind (Q:=fun f:Fr=> -9223372036854775808≤f.2.1∧f.2.1≤9223372036854775807) ⟨(r4.1,(IntKind.wrap .i64 (r3.2.1+1),r4.2.2)),?_,wrap_bd _⟩ fun r6 hr6=>?_
  ·unfold nth
   refine (congrArg (fun l:List Fr=>l[(mDeep m).toNat - 1]?) arL_arS).trans ?_
   exact List.getElem?_set_self hd
  refine Ok.bind (Q:=fun t=>t.length≤21) ⟨Lib.itoa r6.2.1,by unfold strconv_Itoa;rw [if_pos hr6],Lib.itoa_length_le _ hr6.1 hr6.2⟩ fun r7 hr7=>?_
  refine Ok.bind (Ok.cat (Q:=fun t=>t.length≤100) (by simp only [List.length_cons,List.length_nil];omega) (by rw [List.length_append];simp only [List.length_cons,List.length_nil];omega)) fun r8 hr8=>?_
  refine Ok.bind (hln (Q:=fun p=>0≤p.1∧p.1≤196) fun _ h=>h) fun r9 hr9=>?_
  refine Ok.bind (mark_sub (Q:=fun t=>t.length≤196) hr8 hr9 hw fun t ht _=>ht) fun r10 hr10=>?_
  refine Ok.bind (hln (Q:=fun p=>0≤p.1∧p.1≤196) fun _ h=>h) fun r11 hr11=>Ok.some ⟨_,_,_,_,rfl,?_,hr10,hma hr11.2,fun d=>hset _ d rfl⟩
  rw [mark_num hr8 hr9 hw]
  omega
 ·refine Ok.bind (hln (Q:=fun p=>0≤p.1∧p.1≤196) fun _ h=>h) fun r9 hr9=>?_
  refine Ok.bind (mark_sub (s:=[42]) (Q:=fun t=>t.length≤196) (by simp) hr9 hw fun t ht _=>ht) fun r10 hr10=>?_
  refine Ok.bind (hln (Q:=fun p=>0≤p.1∧p.1≤196) fun _ h=>h) fun r11 hr11=>Ok.some ⟨_,_,_,_,rfl,?_,hr10,hma hr11.2,fun d=>hset _ d rfl⟩
  have:=mark_num (s:=[42]) (by simp) hr9 hw
  rw [this]
  simp only [List.length_cons,List.length_nil]
  omega
theorem glyphs_ok {m:MT} {s:List UInt8} (h0:0≤mDeep m) (h32:mDeep m≤32) (hs:s.length≤100000) (hf:(mFlow m).length≤1000000):Ok (vm_Machine__glyphs m s) fun m'=> ∃ fl,m'=wf m fl∧fl.length≤(mFlow m).length+s.length:=by
 unfold vm_Machine__glyphs
 refine Ok.bind (cells_ok s (by omega)) fun r1 hr1=>Ok.ends ?_
 refine Ok.range r1 (by omega) (fun i (m':MT)=> ∃ fl,m'=wf m fl∧fl.length=(mFlow m).length+i) (fun i x m' hx hm'=>?_) (fun m' hm'=>?_) ⟨mFlow m,rfl,by omega⟩
 ·have hlt:=lt_len hx
  obtain ⟨fl,rfl,hfl⟩:=hm'
  refine Ok.yes (by show (i:Int)<_;omega) (Ok.bind (Ok.idxE hx) fun y _=>Ok.bind (mtop_ok (m:=wf m fl) h0 h32) fun t _=>?_)
  refine Ok.bind (Ok.appE (by show (fl.length+_)*_≤_;simp only [List.length_cons,List.length_nil];omega)) fun fl' hfl'=>Ok.inl ⟨wrapS (by omega),fl',rfl,?_⟩
  rw [hfl',List.length_append]
  show fl.length+1=_
  omega
 ·obtain ⟨fl,rfl,hfl⟩:=hm'
  exact Ok.no (by show ¬ ((r1.length:Int)<_);omega) (Ok.inr ⟨fl,rfl,by omega⟩)
end Go.Fn
/- One step of the machine, plainly. -/
namespace Go.Fn
open Go Go.Lf
structure MI (l:List Ins) (ks:List Int) (n:Nat) (m:MT):Prop where
 made:m.1=1
 ins:mInstrs m=l
 wd:10≤mWidth m∧mWidth m≤200
 d0:0≤mDeep m∧mDeep m≤32
 st:kso (mst m) (mDeep m).toNat=ks
 lp: ∀ p∈mLists m,0≤p.1∧p.1≤196
 fl:(mFlow m).length+(mText m).length≤16384+n
 ce:(mCells m).length≤n
 cl: ∀ c∈mCells m,c.length≤100000
 mg:0≤mMargin m∧mMargin m≤196
 mr:(mMarker m).length≤196
 ma:mMarkerAt m≤196
 lk:(mLinks m).length≤n
 ln:LnOk (mLines m)
def LI (ks:List Int) (m:MT):Prop:=(mLists m).length=ks.count 10
def Fix (m m':MT):Prop:=mLooks m'=mLooks m∧mPc m'=mPc m∧mSteps m'=mSteps m∧mHalted m'=mHalted m
theorem Fix.rfl' {m:MT}:Fix m m:=⟨rfl,rfl,rfl,rfl⟩
theorem Fix.trans {a b c:MT} (h:Fix a b) (h':Fix b c):Fix a c:=⟨h'.1.trans h.1,h'.2.1.trans h.2.1,h'.2.2.1.trans h.2.2.1,h'.2.2.2.trans h.2.2.2⟩
theorem MI.mono {l:List Ins} {ks:List Int} {n n':Nat} {m:MT} (h:MI l ks n m) (hn:n≤n'):MI l ks n' m:={ h with fl:=by have:=h.fl;omega,ce:=by have:=h.ce;omega,lk:=by have:=h.lk;omega }
theorem MI.len {l:List Ins} {ks:List Int} {n:Nat} {m:MT} (h:MI l ks n m):(ks.length:Int)=mDeep m:=by
 have h1:=h.d0
 have h2:=h.st
 rw [← h2,kso_len (by rw [mst_len];omega)]
 omega
theorem MI.W {l:List Ins} {ks:List Int} {n:Nat} {m:MT} (h:MI l ks n m) {fl:List Gl} {ce:List (List Gl)} {ir:Bool} {mg:Int} {mk:List UInt8} {ma:Int} {ls:List (List Gl)} {mo:Bool} (h1:fl.length+(mText m).length≤16384+n) (h2:ce.length≤n) (h3: ∀ c∈ce,c.length≤100000) (h4:0≤mg∧mg≤196) (h5:mk.length≤196) (h6:ma≤196) (h7:LnOk ls):MI l ks n (W m fl ce ir mg mk ma ls mo):=
 { made:=h.made,ins:=h.ins,wd:=h.wd,d0:=h.d0,st:=h.st,lp:=h.lp,fl:=h1,ce:=h2,cl:=h3,mg:=h4,mr:=h5,ma:=h6,lk:=h.lk,ln:=h7 }
theorem MI.wp {l:List Ins} {ks:List Int} {n:Nat} {m:MT} (h:MI l ks n m) {f:Fr} (hl:ks.length<32):MI l (f.1::ks) n (wp m f):=by
 have hlen:=h.len
 have h0:=h.d0
 refine { made:=h.made,ins:=h.ins,wd:=h.wd,d0:=⟨by show 0≤mDeep m+1;omega,by show mDeep m+1≤32;omega⟩,st:=?_,lp:=h.lp,fl:=h.fl,ce:=h.ce,cl:=h.cl,mg:=h.mg,mr:=h.mr,ma:=h.ma,lk:=h.lk,ln:=h.ln }
 show kso (arL xY34 32 (arS xY34 32 _ _ _):List Fr) (mDeep m+1).toNat=_
 refine (congrArg (fun l:List Fr=>kso l _) arL_arS).trans ?_
 rw [show (mDeep m+1).toNat=(mDeep m).toNat+1 by omega]
 refine (kso_push (l:=mst m) (by rw [mst_len];omega)).trans ?_
 rw [h.st]
theorem mst_pop {l:List Ins} {k:Int} {ks:List Int} {n:Nat} {m:MT} (h:MI l (k::ks) n m): ∃ hj:(mDeep m).toNat - 1<(mst m).length,(mst m)[(mDeep m).toNat - 1].1=k∧kso (mst m) ((mDeep m).toNat - 1)=ks:=by
 have hlen:=h.len
 have h0:=h.d0
 have hml:=mst_len m
 rw [List.length_cons] at hlen
 have hj:(mDeep m).toNat - 1<(mst m).length:=by omega
 have h1:=kso_pop hj
 rw [show (mDeep m).toNat - 1+1=(mDeep m).toNat by omega,h.st,List.cons.injEq] at h1
 exact ⟨hj,h1.1.symm,h1.2.symm⟩
theorem MI.wo {l:List Ins} {k:Int} {ks:List Int} {n:Nat} {m:MT} (h:MI l (k::ks) n m):MI l ks n (wo m):=by
 have hlen:=h.len
 have h0:=h.d0
 rw [List.length_cons] at hlen
 obtain ⟨hj,_,h2⟩:=mst_pop h
 refine { made:=h.made,ins:=h.ins,wd:=h.wd,d0:=⟨by show 0≤mDeep m - 1;omega,by show mDeep m - 1≤32;omega⟩,st:=?_,lp:=h.lp,fl:=h.fl,ce:=h.ce,cl:=h.cl,mg:=h.mg,mr:=h.mr,ma:=h.ma,lk:=h.lk,ln:=h.ln }
 show kso (arL xY34 32 (arS xY34 32 _ _ _):List Fr) (mDeep m - 1).toNat=_
 refine (congrArg (fun l:List Fr=>kso l _) arL_arS).trans ?_
 rw [show (mDeep m - 1).toNat=(mDeep m).toNat - 1 by omega]
 exact (kso_cut (l:=mst m) (Nat.le_refl _)).trans h2
theorem MI.push {l:List Ins} {ks:List Int} {n:Nat} {m:MT} (h:MI l ks n m) {k x:Int} {lo:Lok} (hl:ks.length<32):Ok (vm_Machine__push m k x lo) fun m'=>m'=Fn.wp m (k,(x,(lo,())))∧MI l (k::ks) n m':=by
 have hlen:=h.len
 refine (push_ok h.d0.1 (by omega)).imp fun m' hm'=>⟨hm',?_⟩
 subst hm'
 exact MI.wp (f:=(k,(x,(lo,())))) h hl
theorem MI.pop {l:List Ins} {k:Int} {ks:List Int} {n:Nat} {m:MT} (h:MI l (k::ks) n m):Ok (vm_Machine__pop m) fun r=>r.2=Fn.wo m∧r.1.1=k∧MI l ks n r.2:=by
 have hlen:=h.len
 rw [List.length_cons] at hlen
 obtain ⟨hj,h1,_⟩:=mst_pop h
 refine (pop_ok (by omega) h.d0.2).imp fun r hr=>⟨hr.1,by rw [hr.2 hj];exact h1,?_⟩
 rw [hr.1]
 exact h.wo
theorem MI.top {l:List Ins} {ks:List Int} {n:Nat} {m:MT} (h:MI l ks n m):Ok (vm_Machine__top m) fun _=>True:=mtop_ok h.d0.1 h.d0.2
theorem MI.settle {l:List Ins} {ks:List Int} {n:Nat} {m:MT} (h:MI l ks n m):Ok (vm_Machine__settle m) fun m'=>MI l ks n m'∧mText m'=mText m∧Fix m m'∧mLists m'=mLists m:=by
 refine (settle_ok h.ln h.mr h.ma).imp fun m' hm'=>?_
 obtain ⟨mk,ls,mo,rfl,hls,hmk⟩:=hm'
 have e:wl (wm m mk) ls mo=Fn.W m (mFlow m) (mCells m) (mInRow m) (mMargin m) mk (mMarkerAt m) ls mo:=rfl
 rw [e]
 exact ⟨h.W h.fl h.ce h.cl h.mg hmk h.ma hls,rfl,Fix.rfl',rfl⟩
theorem bind_inl {α β γ:Type} {x:Option (α⊕β)} {a:α} {f:α→Option γ} {g:β→Option γ} {Q:γ→Prop} (h:x=some (.inl a)) (hf:Ok (f a) Q):Ok (x.bind fun d=>onSum d f g) Q:=by rw [h];exact hf
theorem bind_rr {α β δ γ:Type} {x:Option (α⊕(β⊕δ))} {f:α→Option γ} {g:β→Option γ} {h:δ→Option γ} {R:δ→Prop} {Q:γ→Prop} (hx:Ok x fun d=> ∃ y,d= .inr (.inr y)∧R y) (hq: ∀ y,R y→Ok (h y) Q):Ok (x.bind fun d=>onSum d f (fun b=>onSum b g h)) Q:=by
 obtain ⟨d,rfl,y,rfl,hy⟩:=hx
 exact hq y hy
theorem bind_rl {α β δ γ:Type} {x:Option (α⊕(β⊕δ))} {y:β} {f:α→Option γ} {g:β→Option γ} {h:δ→Option γ} {Q:γ→Prop} (hx:x=some (.inr (.inl y))) (hq:Ok (g y) Q):Ok (x.bind fun d=>onSum d f (fun b=>onSum b g h)) Q:=by rw [hx];exact hq
theorem kd {p:Prop} [Decidable p] {α:Type} {x y:α} (h: ¬ p):(bif decide p then x else y)=y:=by rw [decide_eq_false h];rfl
theorem ky {p:Prop} [Decidable p] {α:Type} {x y:α} (h:p):(bif decide p then x else y)=x:=by rw [decide_eq_true h];rfl
def Res (l:List Ins) (ks:List Int) (n:Nat) (s:List UInt8) (m m':MT):Prop:=MI l ks n m'∧LI ks m'∧mText m'=s∧Fix m m'
theorem inline_ok {l:List Ins} {ks ks':List Int} {n:Nat} {m:MT} {i:Ins} {s':List UInt8} (h:MI l ks n m) (hli:LI ks m) (hn:n≤70000) (hk:KS i.2.2.1 ks ks') (ha:AOp (mLooks m).length (mText m) i s') (h7:i.2.2.1≤7):Ok (vm_Machine__inline m i) (Res l ks' (n+1) s' m):=by
 have hfl:=h.fl
 have h1n:=h.mono (Nat.le_succ n)
 generalize hkk:i.2.2.1=k at hk h7
 unfold vm_Machine__inline
 cases hk with
 | text=>
  obtain ⟨hN1,hN2,rfl⟩:=ha.2.1 hkk
  refine bind_rr (R:=Res l ks (n+1) ((mText m).drop i.2.2.2.1.toNat) m) (Ok.yes hkk ?_) fun y hy=>Ok.some hy
  refine Ok.bind (Ok.sub (Q:=fun t=>t.length=i.2.2.2.1.toNat) (by omega) (by omega) (by show i.2.2.2.1≤((mText m).length:Int);omega) (by rw [List.length_take,List.length_drop];show min _ ((mText m).length - 0)=_;omega)) fun t ht=>?_
  refine Ok.bind (glyphs_ok h.d0.1 h.d0.2 (by omega) (by omega)) fun m' hm'=>?_
  obtain ⟨fl,rfl,hfl'⟩:=hm'
  refine Ok.bind (Ok.sub (Q:=fun t=>t=(mText m).drop i.2.2.2.1.toNat) (by omega) (by show i.2.2.2.1≤((mText m).length:Int);omega) (by show ((mText m).length:Int)≤(mText m).length;omega) ?_) fun u hu=>Ok.some ⟨_,rfl,?_,hli,hu,Fix.rfl'⟩
  ·show (List.drop _ (mText m)).take _=_
   rw [List.take_of_length_le]
   rw [List.length_drop];show (mText m).length - _≤((mText m).length:Int).toNat - _;omega
  ·refine { made:=h.made,ins:=h.ins,wd:=h.wd,d0:=h.d0,st:=h.st,lp:=h.lp,fl:=?_,ce:=h1n.ce,cl:=h.cl,mg:=h.mg,mr:=h.mr,ma:=h.ma,lk:=h1n.lk,ln:=h.ln }
   show fl.length+u.length≤_
   rw [hu,List.length_drop];omega
 | flat hf=>
  have hs:s'=mText m:=ha.2.2 (by omega)
  have hpc:Ok (vm_Machine__top m) fun _=>True:=h.top
  refine bind_rr (R:=Res l ks (n+1) s' m) (Ok.no (by omega) ?_) fun y hy=>Ok.some hy
  have hap: ∀ g:Gl,Ok (app 48 (mFlow m) [g]) fun fl=>Res l ks (n+1) s' m (wf m fl):=fun g=>(Ok.appE (by simp only [List.length_cons,List.length_nil];omega)).imp fun fl hfl'=>by
   refine ⟨?_,hli,hs.symm,Fix.rfl'⟩
   rw [wf_W]
   refine h1n.W ?_ h1n.ce h.cl h.mg h.mr h.ma h.ln
   rw [hfl',List.length_append];simp only [List.length_cons,List.length_nil];omega
  by_cases h6:i.2.2.1=6
  ·exact Ok.yes h6 (Ok.bind hpc fun t _=>Ok.bind (hap _) fun fl hfl=>Ok.some ⟨_,rfl,hfl⟩)
  ·exact Ok.no h6 (Ok.yes (by omega) (Ok.bind hpc fun t _=>Ok.bind (hap _) fun fl hfl=>Ok.some ⟨_,rfl,hfl⟩))
 | mark hf hl=>
  have hs:s'=mText m:=ha.2.2 (by omega)
  by_cases h2:i.2.2.1=2
  ·refine bind_rr (R:=Res l (k::ks) (n+1) s' m) (Ok.no (by omega) (Ok.no (by omega) (Ok.no (by omega) (Ok.yes h2 ?_)))) fun y hy=>Ok.some hy
   refine Ok.bind h.top fun t _=>Ok.bind (styled_ok (ha.1 (.inl h2))) fun lo _=>Ok.bind (h1n.push hl) fun m' hm'=>Ok.some ⟨_,rfl,?_⟩
   obtain ⟨rfl,hm'⟩:=hm'
   rw [hkk] at hm' ⊢
   refine ⟨hm',?_,hs.symm,Fix.rfl'⟩
   show (mLists m).length=_
   rw [List.count_cons_of_ne (by omega)]
   exact hli
  ·have e34:i.2.2.1=3∨i.2.2.1=4:=by omega
   refine bind_inl (a:=(m,i)) ?_ ?_
   ·rw [kd (by omega),kd (by omega),kd (by omega),kd h2]
    rcases e34 with e | e
    ·rw [ky e]
    ·rw [kd (by omega),ky e]
   ·refine Ok.bind (Q:=fun q:MT×(Ins×(Int×(Int×Unit)))=>q.1=m∧q.2.1=i) (Ok.ifs (fun _=>Ok.some ⟨rfl,rfl⟩) fun _=>Ok.some ⟨rfl,rfl⟩) fun q hq=>?_
    obtain ⟨qm,qi,qt⟩:=q
    obtain ⟨hq1,hq2⟩:=hq
    dsimp only at hq1 hq2
    subst hq1
    subst hq2
    have hlk:=h.lk
    refine Ok.bind (Ok.appE (by show ((mLinks qm).length+_)*_≤_;simp only [List.length_cons,List.length_nil];omega)) fun lks hlks=>?_
    have hlks1:lks.length=(mLinks qm).length+1:=by rw [hlks,List.length_append];rfl
    have hM:MI l ks (n+1) (u20 qm (((lks.length:Nat):Int),(lks,qm.2.2.2.2.2.2.2.2.2.2.2.2.2.2.2.2.2.2.2.2.2.2))):={ made:=h.made,ins:=h.ins,wd:=h.wd,d0:=h.d0,st:=h.st,lp:=h.lp,fl:=h1n.fl,ce:=h1n.ce,cl:=h.cl,mg:=h.mg,mr:=h.mr,ma:=h.ma,lk:=by show lks.length≤_;omega,ln:=h.ln }
    refine Ok.bind hM.top fun t _=>Ok.ends ((hM.push hl).imp fun m' hm'=>?_)
    obtain ⟨rfl,hm'⟩:=hm'
    rw [hkk] at hm' ⊢
    refine ⟨hm',?_,hs.symm,Fix.rfl'⟩
    show (mLists qm).length=_
    rw [List.count_cons_of_ne (by omega)]
    exact hli
 | @close kk _ h10 h12=>
  have hs:s'=mText m:=ha.2.2 (by omega)
  refine bind_rl (y:=m) ?_ ?_
  ·rw [kd (by omega),kd (by omega),kd (by omega),kd (by omega),kd (by omega),kd (by omega),ky hkk]
  ·refine Ok.ends (Ok.bind h1n.pop fun r hr=>?_)
   obtain ⟨f,m'⟩:=r
   obtain ⟨rfl,hf,hm'⟩:=hr
   have hli':(mLists m).length=ks'.count 10:=by
    have hli:(mLists m).length=_:=hli
    rw [List.count_cons_of_ne h10] at hli
    exact hli
   refine Ok.ifs (fun _=>Ok.some ⟨?_,hli',hs.symm,Fix.rfl'⟩) fun _=>Ok.some ⟨hm',hli',hs.symm,Fix.rfl'⟩
   exact { made:=hm'.made,ins:=hm'.ins,wd:=hm'.wd,d0:=hm'.d0,st:=hm'.st,lp:=hm'.lp,fl:=hm'.fl,ce:=hm'.ce,cl:=hm'.cl,mg:=hm'.mg,mr:=hm'.mr,ma:=hm'.ma,lk:=hm'.lk,ln:=hm'.ln }
 | _=>omega
theorem inline_id {m:MT} {i:Ins} (h7:8≤i.2.2.1):vm_Machine__inline m i=some m:=by
 unfold vm_Machine__inline
 rw [kd (by omega),kd (by omega),kd (by omega),kd (by omega),kd (by omega),kd (by omega),kd (by omega)]
 rfl
end Go.Fn
/- One step of the machine, plainly: blocks, and the step. -/
namespace Go.Fn
open Go Go.Lf
theorem count_le {l:List Ins} {ks:List Int} {n:Nat} {m:MT} (h:MI l ks n m) (hli:LI ks m):(mLists m).length≤32:=by
 have h1:=h.len
 have h2:=h.d0
 have h3:ks.count 10≤ks.length:=List.count_le_length
 have hli:(mLists m).length=ks.count 10:=hli
 omega
theorem block_para {l:List Ins} {ks:List Int} {n:Nat} {m:MT} {i:Ins} (h:MI l ks n m) (hli:LI ks m) (hn:n≤70000) (hN:i.2.2.1=8→i.2.2.2.1<(mLooks m).length) (hl:ks.length<32) (hkk:i.2.2.1=8):Ok (vm_Machine__block m i) (Res l (8::ks) (n+1) (mText m) m):=by
 have hfl:=h.fl
 have h1n:=h.mono (Nat.le_succ n)
 unfold vm_Machine__block
 refine Ok.yes hkk (Ok.bind (Q:=fun q:MT×Ins=>q.2=i∧MI l ks n q.1∧LI ks q.1∧mText q.1=mText m∧Fix m q.1) ?_ fun q hq=>?_)
 ·refine Ok.bind (Q:=fun b:Bool×(MT×Ins)=>b.2=(m,i)) (Ok.cond (fun _=>Ok.ifs (fun _=>Ok.some rfl) fun _=>Ok.some rfl) fun _=>Ok.some rfl) fun b hb=>?_
  obtain ⟨c,b⟩:=b
  obtain rfl:=hb
  refine Ok.cond (fun _=>Ok.bind (tell_ok (m:=m) (line:=[]) h.ln (by simp)) fun m' hm'=>Ok.some ?_) fun _=>Ok.some ⟨rfl,h,hli,rfl,Fix.rfl'⟩
  obtain ⟨ls,mo,rfl,hls⟩:=hm'
  have e:wl m ls mo=W m (mFlow m) (mCells m) (mInRow m) (mMargin m) (mMarker m) (mMarkerAt m) ls mo:=rfl
  rw [e]
  exact ⟨rfl,h.W h.fl h.ce h.cl h.mg h.mr h.ma hls,hli,rfl,Fix.rfl'⟩
 ·obtain ⟨q,qi⟩:=q
  obtain ⟨rfl,hq,hqli,hqt,hqf⟩:=hq
  have hM:MI l ks (n+1) (wf q []):=by
   rw [wf_W]
   have hq:=hq.mono (Nat.le_succ n)
   have hqfl:(mFlow q).length+(mText q).length≤16384+(n+1):=hq.fl
   exact hq.W (by show 0+(mText q).length≤16384+(n+1);omega) hq.ce hq.cl hq.mg hq.mr hq.ma hq.ln
  refine Ok.bind hM.top fun t _=>Ok.bind (styled_ok (m:=wf q []) (by show _<((mLooks q).length:Int);rw [hqf.1];exact hN hkk) ) fun lo _=>Ok.ends ((hM.push hl).imp fun m' hm'=>?_)
  obtain ⟨hmw,hm'⟩:=hm'
  have hm':MI l (8::ks) (n+1) m':=by first | exact hm' | (have h:=hm';rw [hkk] at h;exact h)
  subst hmw
  refine ⟨hm',?_,hqt,hqf⟩
  show (mLists q).length=_
  rw [List.count_cons_of_ne (by decide)]
  exact hqli
theorem block_done {l:List Ins} {ks':List Int} {n:Nat} {m:MT} {i:Ins} (h:MI l (8::ks') n m) (hli:LI (8::ks') m) (hn:n≤70000) (hkk:i.2.2.1=9):Ok (vm_Machine__block m i) (Res l ks' (n+1) (mText m) m):=by
 have hfl:=h.fl
 have h1n:=h.mono (Nat.le_succ n)
 unfold vm_Machine__block
 refine Ok.no (by omega) (Ok.yes hkk (Ok.bind h.pop fun r hr=>?_))
 obtain ⟨f,m'⟩:=r
 obtain ⟨rfl,_,hm⟩:=hr
 have hce:(mCells m).length≤n:=hm.ce
 have hflw:(mFlow m).length+(mText m).length≤16384+n:=hm.fl
 refine Ok.ends ((mend_ok (m:=wo m) hm.ln hm.mr hm.ma hm.mg.2 (by show (mFlow m).length≤_;omega) (by show (mCells m).length≤_;omega)).imp fun m' hm'=>?_)
 obtain ⟨c,mk,ls,mo,rfl,hls,hmk,hc⟩:=hm'
 have hm1:=hm.mono (Nat.le_succ n)
 refine ⟨hm1.W (by show 0+(mText m).length≤16384+(n+1);omega) ?_ ?_ hm.mg hmk hm.ma hls,?_,rfl,Fix.rfl'⟩
 ·rcases hc with rfl | rfl
  ·show (mCells m).length≤n+1
   omega
  ·rw [List.length_append];show (mCells m).length+1≤n+1;omega
 ·rcases hc with rfl | rfl
  ·exact hm.cl
  ·intro c hc
   rcases List.mem_append.1 hc with hc | hc
   ·exact hm.cl c hc
   ·rw [List.mem_singleton.1 hc]
    show (mFlow m).length≤_
    omega
 ·have hli:(mLists m).length=_:=hli
  rw [List.count_cons_of_ne (by decide)] at hli
  exact hli
theorem block_list {l:List Ins} {ks:List Int} {n:Nat} {m:MT} {i:Ins} (h:MI l ks n m) (hli:LI ks m) (hn:n≤70000) (hl:ks.length<32) (hkk:i.2.2.1=10):Ok (vm_Machine__block m i) (Res l (10::ks) (n+1) (mText m) m):=by
 have hfl:=h.fl
 have h1n:=h.mono (Nat.le_succ n)
 unfold vm_Machine__block
 refine Ok.no (by omega) (Ok.no (by omega) (Ok.yes hkk (Ok.bind h1n.settle fun m1 hm1=>?_)))
 obtain ⟨hm1,ht,hf,hls⟩:=hm1
 have hcl:=count_le h hli
 refine Ok.bind (Ok.appE (by show ((mLists m1).length+_)*_≤_;rw [hls];simp only [List.length_cons,List.length_nil];omega)) fun l2 hl2=>?_
 have hlp: ∀ p∈l2,0≤p.1∧p.1≤196:=fun p hp=>by
  rw [hl2] at hp
  rcases List.mem_append.1 hp with hp | hp
  ·exact hm1.lp p hp
  ·rw [List.mem_singleton.1 hp];exact hm1.mg
 have hM:MI l ks (n+1) (u10 m1 (l2,m1.2.2.2.2.2.2.2.2.2.2.2)):={ made:=hm1.made,ins:=hm1.ins,wd:=hm1.wd,d0:=hm1.d0,st:=hm1.st,lp:=hlp,fl:=hm1.fl,ce:=hm1.ce,cl:=hm1.cl,mg:=hm1.mg,mr:=hm1.mr,ma:=hm1.ma,lk:=hm1.lk,ln:=hm1.ln }
 refine Ok.ends ((hM.push hl).imp fun m' hm'=>?_)
 obtain ⟨hmw,hm'⟩:=hm'
 have hm':MI l (10::ks) (n+1) m':=by first | exact hm' | (have h:=hm';rw [hkk] at h;exact h)
 subst hmw
 refine ⟨hm',?_,ht,hf⟩
 show l2.length=_
 rw [List.count_cons_self,hl2,List.length_append]
 show (mLists m1).length+1=_
 rw [hls]
 have hli:(mLists m).length=_:=hli
 omega
theorem block_item {l:List Ins} {ks2:List Int} {n:Nat} {m:MT} {i:Ins} (h:MI l (10::ks2) n m) (hli:LI (10::ks2) m) (hn:n≤70000) (hkk:i.2.2.1=11):Ok (vm_Machine__block m i) (Res l (10::ks2) (n+1) (mText m) m):=by
 have hfl:=h.fl
 have h1n:=h.mono (Nat.le_succ n)
 unfold vm_Machine__block
 refine Ok.no (by omega) (Ok.no (by omega) (Ok.no (by omega) (Ok.yes hkk (Ok.bind h1n.settle fun m1 hm1=>Ok.ends ?_))))
 obtain ⟨hm1,ht,hf,hls⟩:=hm1
 have hcl:=count_le h hli
 have hli':(mLists m).length=_:=hli
 rw [List.count_cons_self] at hli'
 have hlen:=hm1.len
 rw [List.length_cons] at hlen
 refine (mmark_ok (m:=m1) (by intro e;rw [hls] at e;rw [e] at hli';simp at hli') hm1.lp (by rw [hls];omega) (by omega) hm1.d0.2 hm1.wd).imp fun m' hm'=>?_
 obtain ⟨st,mg,mk,ma,rfl,hmg,hmk,hma,hst⟩:=hm'
 refine ⟨{ made:=hm1.made,ins:=hm1.ins,wd:=hm1.wd,d0:=hm1.d0,st:=(hst _).trans hm1.st,lp:=hm1.lp,fl:=hm1.fl,ce:=hm1.ce,cl:=hm1.cl,mg:=hmg,mr:=hmk,ma:=hma,lk:=hm1.lk,ln:=hm1.ln },?_,ht,hf⟩
 show (mLists m1).length=_
 rw [hls]
 exact hli
theorem block_table {l:List Ins} {ks:List Int} {n:Nat} {m:MT} {i:Ins} (h:MI l ks n m) (hli:LI ks m) (hn:n≤70000) (hl:ks.length<32) (hkk:i.2.2.1=12):Ok (vm_Machine__block m i) (Res l (12::ks) (n+1) (mText m) m):=by
 have hfl:=h.fl
 have h1n:=h.mono (Nat.le_succ n)
 unfold vm_Machine__block
 refine Ok.no (by omega) (Ok.no (by omega) (Ok.no (by omega) (Ok.no (by omega) (Ok.yes hkk (Ok.bind (columns_total _ _) fun cs _=>?_)))))
 have hM:MI l ks (n+1) (u13 m (cs.1,(true,m.2.2.2.2.2.2.2.2.2.2.2.2.2.2.2))):={ made:=h.made,ins:=h.ins,wd:=h.wd,d0:=h.d0,st:=h.st,lp:=h.lp,fl:=h1n.fl,ce:=h1n.ce,cl:=h.cl,mg:=h.mg,mr:=h.mr,ma:=h.ma,lk:=h1n.lk,ln:=h.ln }
 refine Ok.ends ((hM.push hl).imp fun m' hm'=>?_)
 obtain ⟨hmw,hm'⟩:=hm'
 have hm':MI l (12::ks) (n+1) m':=by first | exact hm' | (have h:=hm';rw [hkk] at h;exact h)
 subst hmw
 refine ⟨hm',?_,rfl,Fix.rfl'⟩
 show (mLists m).length=_
 rw [List.count_cons_of_ne (by decide)]
 exact hli
theorem block_row {l:List Ins} {ks2:List Int} {n:Nat} {m:MT} {i:Ins} (h:MI l (12::ks2) n m) (hli:LI (12::ks2) m) (hn:n≤70000) (hkk:i.2.2.1=13):Ok (vm_Machine__block m i) (Res l (12::ks2) (n+1) (mText m) m):=by
 have hfl:=h.fl
 have h1n:=h.mono (Nat.le_succ n)
 unfold vm_Machine__block
 refine Ok.no (by omega) (Ok.no (by omega) (Ok.no (by omega) (Ok.no (by omega) (Ok.no (by omega) (Ok.yes hkk (Ok.bind (mrow_ok h1n.ln h1n.cl) fun m1 hm1=>?_))))))
 obtain ⟨c,ir,ls,mo,rfl,hls,hc⟩:=hm1
 have hM:=h1n.W (fl:=mFlow m) (ce:=c) (ir:=ir) (mg:=mMargin m) (mk:=mMarker m) (ma:=mMarkerAt m) (ls:=ls) (mo:=mo) h1n.fl (by rcases hc with rfl | rfl;exact h1n.ce;simp) (by rcases hc with rfl | rfl;exact h.cl;simp) h.mg h.mr h.ma hls
 have hlen:=h.len
 rw [List.length_cons] at hlen
 have h32:=h.d0.2
 have e2:IntKind.wrap .i64 (mDeep m - 1)=mDeep m - 1:=wrap64 (by omega) (by omega)
 obtain ⟨hj,_,_⟩:=mst_pop h
 refine Ok.bind (Ok.chk (Q:=(· =(mDeep m).toNat - 1)) (by show 0≤IntKind.wrap .i64 (mDeep m - 1);rw [e2];omega) (by show IntKind.wrap .i64 (mDeep m - 1)<_;rw [e2];omega) (by show (IntKind.wrap .i64 (mDeep m - 1)).toNat=_;rw [e2];omega)) fun j1 hj1=>?_
 subst hj1
 refine Ok.bind (Ok.nth (l:=mst m) (Q:=fun _=>True) hj trivial) fun f1 _=>?_
 refine Ok.bind (Ok.chk (Q:=(· =(mDeep m).toNat - 1)) (by show 0≤IntKind.wrap .i64 (mDeep m - 1);rw [e2];omega) (by show IntKind.wrap .i64 (mDeep m - 1)<_;rw [e2];omega) (by show (IntKind.wrap .i64 (mDeep m - 1)).toNat=_;rw [e2];omega)) fun j2 hj2=>?_
 subst hj2
 refine Ok.bind (Ok.nth (l:=mst m) (Q:=(· =(mst m)[(mDeep m).toNat - 1])) hj rfl) fun f2 hf2=>Ok.some ⟨{ made:=h.made,ins:=h.ins,wd:=h.wd,d0:=h.d0,st:=?_,lp:=h.lp,fl:=hM.fl,ce:=hM.ce,cl:=hM.cl,mg:=h.mg,mr:=h.mr,ma:=h.ma,lk:=h1n.lk,ln:=hls },hli,rfl,Fix.rfl'⟩
 show kso (arL xY34 32 (arS xY34 32 _ _ _):List Fr) (mDeep m).toNat=_
 refine (congrArg (fun l:List Fr=>kso l _) arL_arS).trans ?_
 refine (kso_keep (l:=mst m) hj (by rw [← hf2])).trans h.st
theorem block_fin {l:List Ins} {ks':List Int} {kk:Int} {n:Nat} {m:MT} {i:Ins} (h:MI l (kk::ks') n m) (hli:LI (kk::ks') m) (hn:n≤70000) (hkd:kk=10∨kk=12) (hkk:i.2.2.1=14):Ok (vm_Machine__block m i) (Res l ks' (n+1) (mText m) m):=by
 have hfl:=h.fl
 have h1n:=h.mono (Nat.le_succ n)
 unfold vm_Machine__block
 rw [kd (by omega),kd (by omega),kd (by omega),kd (by omega),kd (by omega),kd (by omega),ky hkk]
 refine Ok.bind h1n.pop fun r hr=>?_
 obtain ⟨f,m'⟩:=r
 obtain ⟨hmw,hfk,hm⟩:=hr
 dsimp only at hmw hfk hm
 have hli':(mLists m).length=_:=hli
 have hl':mLists m'=mLists m:=by rw [hmw]
 have ht':mText m'=mText m:=by rw [hmw]
 have hf':Fix m m':=by rw [hmw];exact Fix.rfl'
 clear hmw
 refine Ok.ifs (fun h12=>?_) fun h12=>?_
 ·have h12:f.1=12:=h12
  have hkk12:kk=12:=by rw [← hfk];exact h12
  subst hkk12
  rw [List.count_cons_of_ne (by decide)] at hli'
  refine Ok.bind (mrow_ok (m:=m') hm.ln hm.cl) fun m1 hm1=>Ok.some ?_
  obtain ⟨c,ir,ls,mo,hmw,hls,hc⟩:=hm1
  have hM:MI l ks' (n+1) m1:=by
   rw [hmw]
   exact hm.W hm.fl (by rcases hc with rfl | rfl;exact hm.ce;simp) (by rcases hc with rfl | rfl;exact hm.cl;simp) hm.mg hm.mr hm.ma hls
  have hl1:mLists m1=mLists m':=by rw [hmw]
  have ht1:mText m1=mText m':=by rw [hmw]
  have hf1:Fix m' m1:=by rw [hmw];exact Fix.rfl'
  clear hmw
  exact ⟨{ made:=hM.made,ins:=hM.ins,wd:=hM.wd,d0:=hM.d0,st:=hM.st,lp:=hM.lp,fl:=hM.fl,ce:=hM.ce,cl:=hM.cl,mg:=hM.mg,mr:=hM.mr,ma:=hM.ma,lk:=hM.lk,ln:=hM.ln },(congrArg List.length (hl1.trans hl')).trans hli',ht1.trans ht',hf'.trans hf1⟩
 ·have h12: ¬ (f.1=12):=h12
  have hkk10:kk=10:=by
   rcases hkd with h | h
   ·exact h
   ·exact absurd (hfk.trans h) h12
  subst hkk10
  rw [List.count_cons_self] at hli'
  have hcl:=count_le h hli
  refine Ok.bind hm.settle fun m1 hm1=>?_
  obtain ⟨hm1,ht,hf,hls⟩:=hm1
  have hls:mLists m1=mLists m:=hls.trans hl'
  have hl1:(mLists m1).length=ks'.count 10+1:=by rw [hls];exact hli'
  have e1:IntKind.wrap .i64 (((mLists m1).length:Int) - 1)=(mLists m1).length - 1:=wrap64 (by rw [hls];omega) (by rw [hls];omega)
  refine Ok.bind (Ok.chk (Q:=fun j=>j<(mLists m1).length) (by show 0≤IntKind.wrap .i64 (((mLists m1).length:Int) - 1);rw [e1];omega) (by show IntKind.wrap .i64 (((mLists m1).length:Int) - 1)<((mLists m1).length:Int);rw [e1];omega) (by show (IntKind.wrap .i64 (((mLists m1).length:Int) - 1)).toNat<_;rw [e1];omega)) fun j hj=>?_
  refine Ok.bind (Ok.nth (l:=mLists m1) (Q:=fun p=>0≤p.1∧p.1≤196) hj (hm1.lp _ (List.getElem_mem hj))) fun p hp=>?_
  refine Ok.bind (Ok.sub (l:=mLists m1) (Q:=fun t=>t=(mLists m1).take ((mLists m1).length - 1)) (by omega) (by show 0≤IntKind.wrap .i64 (((mLists m1).length:Int) - 1);rw [e1];omega) (by show IntKind.wrap .i64 (((mLists m1).length:Int) - 1)≤_;rw [e1];omega) ?_) fun t ht2=>Ok.some ⟨{ made:=hm1.made,ins:=hm1.ins,wd:=hm1.wd,d0:=hm1.d0,st:=hm1.st,lp:=fun p hp=>?_,fl:=hm1.fl,ce:=hm1.ce,cl:=hm1.cl,mg:=hp,mr:=hm1.mr,ma:=hm1.ma,lk:=hm1.lk,ln:=hm1.ln },?_,ht.trans ht',hf'.trans hf⟩
  ·show List.take ((IntKind.wrap .i64 (((mLists m1).length:Int) - 1)).toNat - _) (List.drop _ _)=_
   rw [e1]
   show List.take _ (List.drop 0 (mLists m1))=_
   rw [List.drop_zero]
   congr 1
   show (((mLists m1).length:Int) - 1).toNat - 0=_
   omega
  ·have hp:p∈t:=hp
   rw [ht2] at hp
   exact hm1.lp p (List.mem_of_mem_take hp)
  ·show t.length=_
   rw [ht2,List.length_take,hl1]
   omega
theorem block_ok {l:List Ins} {ks ks':List Int} {n:Nat} {m:MT} {i:Ins} (h:MI l ks n m) (hli:LI ks m) (hn:n≤70000) (hk:KS i.2.2.1 ks ks') (hN:i.2.2.1=8→i.2.2.2.1<(mLooks m).length) (h8:8≤i.2.2.1):Ok (vm_Machine__block m i) (Res l ks' (n+1) (mText m) m):=by
 generalize hkk:i.2.2.1=k at hk h8
 cases hk with
 | para hl=>exact block_para h hli hn hN hl hkk
 | done=>exact block_done h hli hn hkk
 | list hl=>exact block_list h hli hn hl hkk
 | item=>exact block_item h hli hn hkk
 | table hl=>exact block_table h hli hn hl hkk
 | row=>exact block_row h hli hn hkk
 | fin hkd=>exact block_fin h hli hn hkd hkk
 | _=>omega
theorem block_id {m:MT} {i:Ins} (h7:i.2.2.1≤7):vm_Machine__block m i=some m:=by
 unfold vm_Machine__block
 rw [kd (by omega),kd (by omega),kd (by omega),kd (by omega),kd (by omega),kd (by omega),kd (by omega)]
structure SI (l:List Ins) (ks:List Int) (s:List UInt8) (n:Nat) (m:MT):Prop where
 mi:MI l ks n m
 li:LI ks m
 tx:mText m=s
 pc:mPc m=n
 sp:mSteps m=n
 ha:mHalted m=false
 aw:AW (mLooks m).length ks s (l.drop n)
 ll:l.length≤65537
structure HI (l:List Ins) (n:Nat) (m:MT):Prop where
 mi:MI l [] n m
 li:(mLists m).length≤1000
 pc:mPc m=n
 sp:mSteps m=n+1
 ha:mHalted m=true
 nl:n+1=l.length
 ll:l.length≤65537
theorem is_ok {m:MT} (h:m.1=1):vm_Machine__is m=some true:=by
 unfold vm_Machine__is
 rw [decide_eq_true h]
theorem step_ok {l:List Ins} {ks:List Int} {s:List UInt8} {n:Nat} {m:MT} (h:SI l ks s n m):Ok (vm_Machine__Step m) fun r=>r.1=0∧((∃ ks' s',SI l ks' s' (n+1) r.2)∨HI l n r.2):=by
 have hlt:n<l.length:=by
  rcases Nat.lt_or_ge n l.length with h1 | h1
  ·exact h1
  ·have:=h.aw
   rw [List.drop_eq_nil_of_le h1] at this
   cases this
 have hll:=h.ll
 have hd:l.drop n=l[n]::l.drop (n+1):=List.drop_eq_getElem_cons hlt
 have haw:=h.aw
 rw [hd] at haw
 have hx:l[n]? =some l[n]:=List.getElem?_eq_getElem hlt
 generalize l[n]=i at haw hx
 unfold vm_Machine__Step
 refine Ok.bind (Ok.of (Q:=(· =true)) (is_ok h.mi.made) rfl) fun b hb=>?_
 subst hb
 refine Ok.cond (fun h=>by cases h) fun _=>Ok.cond (fun hh=>by have:=h.ha;rw [show mHalted m=true from hh] at this;cases this) fun _=>?_
 refine Ok.bind (Q:=(i= ·)) ⟨i,?_,rfl⟩ fun y hy=>?_
 ·show idx (mInstrs m) (mPc m)=_
  rw [h.mi.ins,h.pc,idx_nat,hx]
 subst hy
 have es:IntKind.wrap .i64 (mSteps m+1)=n+1:=by rw [h.sp];exact wrap64 (by omega) (by omega)
 have ep:IntKind.wrap .i64 (mPc m+1)=n+1:=by rw [h.pc];exact wrap64 (by omega) (by omega)
 have hmi:=h.mi
 refine Ok.ifs (fun h15=>Ok.some ⟨rfl, .inr ?_⟩) fun h15=>?_
 ·generalize hr:l.drop (n+1)=r at haw
  cases haw with
  | halt _=>
   have hlen:=congrArg List.length hr
   rw [List.length_drop,List.length_nil] at hlen
   exact { mi:={ made:=hmi.made,ins:=hmi.ins,wd:=hmi.wd,d0:=hmi.d0,st:=hmi.st,lp:=hmi.lp,fl:=hmi.fl,ce:=hmi.ce,cl:=hmi.cl,mg:=hmi.mg,mr:=hmi.mr,ma:=hmi.ma,lk:=hmi.lk,ln:=hmi.ln },li:=by have:=count_le h.mi h.li;show (mLists m).length≤1000;omega,pc:=h.pc,sp:=es,ha:=rfl,nl:=by omega,ll:=hll }
  | step hne _ _ _=>exact absurd h15 hne
 ·generalize hr:l.drop (n+1)=r at haw
  cases haw with
  | halt h=>exact absurd h h15
  | @step _ ks' _ s' _ _ _ hks hop hA=>
   have hM:MI l ks n (u5 m (IntKind.wrap .i64 (mPc m+1),(IntKind.wrap .i64 (mSteps m+1),m.2.2.2.2.2.2.2))):={ made:=hmi.made,ins:=hmi.ins,wd:=hmi.wd,d0:=hmi.d0,st:=hmi.st,lp:=hmi.lp,fl:=hmi.fl,ce:=hmi.ce,cl:=hmi.cl,mg:=hmi.mg,mr:=hmi.mr,ma:=hmi.ma,lk:=hmi.lk,ln:=hmi.ln }
   have hop':AOp (mLooks m).length (mText m) i s':=by rw [h.tx];exact hop
   refine Ok.bind (Q:=fun m1:MT=>(i.2.2.1≤7→Res l ks' (n+1) s' (u5 m (IntKind.wrap .i64 (mPc m+1),(IntKind.wrap .i64 (mSteps m+1),m.2.2.2.2.2.2.2))) m1)∧(8≤i.2.2.1→m1=u5 m (IntKind.wrap .i64 (mPc m+1),(IntKind.wrap .i64 (mSteps m+1),m.2.2.2.2.2.2.2)))) ?_ fun m1 hm1=>?_
   ·by_cases h7:i.2.2.1≤7
    ·exact (inline_ok hM h.li (by omega) hks hop' h7).imp fun m1 hm1=>⟨fun _=>hm1,fun h=>by omega⟩
    ·exact Ok.of (inline_id (by omega)) ⟨fun h=>absurd h h7,fun _=>rfl⟩
   refine Ok.bind (Q:=fun m2:MT=>Res l ks' (n+1) s' (u5 m (IntKind.wrap .i64 (mPc m+1),(IntKind.wrap .i64 (mSteps m+1),m.2.2.2.2.2.2.2))) m2) ?_ fun m2 hm2=>Ok.some ⟨rfl, .inl ⟨ks',s',?_⟩⟩
   ·by_cases h7:i.2.2.1≤7
    ·exact Ok.of (block_id h7) (hm1.1 h7)
    ·rw [hm1.2 (by omega)]
     refine (block_ok hM h.li (by omega) hks (fun h8=>hop'.1 (.inr h8)) (by omega)).imp fun m2 hm2=>⟨hm2.1,hm2.2.1,?_,hm2.2.2.2⟩
     rw [hm2.2.2.1,hop'.2.2 (by omega)]
   ·obtain ⟨h1,h2,h3,h4⟩:=hm2
    exact { mi:={ made:=h1.made,ins:=h1.ins,wd:=h1.wd,d0:=h1.d0,st:=h1.st,lp:=h1.lp,fl:=h1.fl,ce:=h1.ce,cl:=h1.cl,mg:=h1.mg,mr:=h1.mr,ma:=h1.ma,lk:=h1.lk,ln:=h1.ln },li:=h2,tx:=h3,pc:=h4.2.1.trans ep,sp:=h4.2.2.1.trans es,ha:=h4.2.2.2.trans h.ha,aw:=by rw [show mLooks _=mLooks m from h4.1,hr];exact hA,ll:=hll }
end Go.Fn
/- Machines that are made, and run, plainly. -/
namespace Go.Fn
open Go Go.Lf
def Live (l:List Ins) (m:MT):Prop:=(∃ ks s n,SI l ks s n m)∨ ∃ n,HI l n m
theorem Live.step {l:List Ins} {m:MT} (h:Live l m):Ok (vm_Machine__Step m) fun r=>(mHalted m=true∧r=(180,m))∨(mHalted m=false∧r.1=0∧Live l r.2∧mSteps r.2=mSteps m+1):=by
 rcases h with ⟨ks,s,n,h⟩ | ⟨n,h⟩
 ·refine (step_ok h).imp fun r hr=> .inr ⟨h.ha,hr.1,?_,?_⟩
  ·rcases hr.2 with ⟨ks',s',h'⟩ | h'
   ·exact .inl ⟨ks',s',n+1,h'⟩
   ·exact .inr ⟨n,h'⟩
  ·rcases hr.2 with ⟨ks',s',h'⟩ | h'
   ·rw [h'.sp,h.sp];omega
   ·rw [h'.sp,h.sp]
 ·refine ⟨(180,m),?_, .inl ⟨h.ha,rfl⟩⟩
  unfold vm_Machine__Step
  rw [is_ok h.mi.made]
  show (bif mHalted m then some ((180:Int),m) else _)=_
  rw [h.ha]
  rfl
theorem Live.made {l:List Ins} {m:MT} (h:Live l m):m.1=1:=by
 rcases h with ⟨ks,s,n,h⟩ | ⟨n,h⟩
 ·exact h.mi.made
 ·exact h.mi.made
noncomputable def stepS (m:MT):Option MT:=(vm_Machine__Step m).bind fun r=>if r.1=0 then some r.2 else none
noncomputable def iterS:Nat→MT→Option MT
 | 0,m=>some m
 | k+1,m=>(iterS k m).bind stepS
theorem run_ok {l:List Ins} {m:MT} (h:Live l m) {a:Nat} (ha:a≤1000000):Ok (vm_run m (a:Int)) fun r=> ∃ k:Nat,r.1=k∧k≤a∧iterS k m=some r.2∧Live l r.2∧(k<a→mHalted r.2=true):=by
 unfold vm_run
 refine Ok.ends (Ok.loop (fun k (z:Int×MT)=> ∃ j:Nat,z.1=j∧j+k=a∧iterS j m=some z.2∧Live l z.2) (fun k z hz=>?_) a _ (by omega) ⟨0,rfl,by omega,rfl,h⟩)
 obtain ⟨n,z⟩:=z
 obtain ⟨j,hj1,hj2,hj3,hj4⟩:=hz
 dsimp only at hj1 hj2 hj3 hj4 ⊢
 subst hj1
 refine Ok.bind (Q:=fun q:Bool×MT=>(q.1=true→j<a∧iterS (j+1) m=some q.2∧Live l q.2)∧(q.1=false→q.2=z∧(j<a→mHalted z=true))) ?_ fun q hq=>Ok.cond (fun hc=>?_) fun hc=>?_
 ·refine Ok.ifs (fun hlt=>?_) fun hge=>Ok.some ⟨fun h=>(by cases h),fun _=>⟨rfl,fun h=>by omega⟩⟩
  obtain ⟨r,hr,h2⟩:=hj4.step
  refine Ok.bind (Ok.of (Q:=(r= ·)) hr rfl) fun y hy=>Ok.some ?_
  subst hy
  rcases h2 with ⟨h3,rfl⟩ | ⟨h3,h4,h5,h6⟩
  ·exact ⟨fun h=>absurd (show decide ((180:Int)=0)=true from h) (by decide),fun _=>⟨rfl,fun _=>h3⟩⟩
  ·refine ⟨fun _=>⟨by omega,?_,h5⟩,fun h=>absurd h4 (of_decide_eq_false (show decide (r.1=0)=false from h))⟩
   show (iterS j m).bind stepS=some r.2
   rw [hj3,Option.bind_some]
   unfold stepS
   rw [hr,Option.bind_some,if_pos h4]
 ·obtain ⟨h1,h2,h3⟩:=hq.1 hc
  exact Ok.inl ⟨k - 1,by omega,j+1,wrapS (by omega),by omega,h2,h3⟩
 ·obtain ⟨h1,h2⟩:=hq.2 hc
  obtain ⟨c,q⟩:=q
  obtain rfl:q=z:=h1
  exact Ok.inr ⟨j,rfl,by omega,hj3,hj4,h2⟩
abbrev mk0 (m:MT) (lk:List Chg):MT:=(m.1,(lk,m.2.2))
theorem looks_ok (a0:List Sty) (hl:a0.length≤64) (m0:MT) (hm0:m0.2.1.length=0):Ok (loopU (σ:=Int×MT) (κ:=MT) (fun z4=>
   bif (decide (z4.1<(((List.length a0):Nat):Int))) then ((Go.Lf.idx a0 z4.1)).bind fun r5=>
   ((Go.Fn.style_Whole a0 r5.1)).bind fun r6=>
   ((Go.Lf.app (24:Nat) z4.2.2.1 (r6.1::([]:List Chg)))).bind fun r7=>
   some (.inl ((Go.IntKind.wrap .i64 (z4.1+(1:Int))),(z4.2.1,(r7,z4.2.2.2))))
   else some (.inr z4.2)) ((0:Int),m0)) fun m=> ∃ lk:List Chg,m=mk0 m0 lk∧lk.length=a0.length:=by
 refine Ok.range a0 (by omega) (fun i (m:MT)=> ∃ lk:List Chg,m=mk0 m0 lk∧lk.length=i) (fun i x m hx hm=>?_) (fun m hm=>?_) ⟨m0.2.1,rfl,hm0⟩
 ·have hlt:=at_len hx
  obtain ⟨lk,rfl,hlk⟩:=hm
  refine Ok.yes (by show (i:Int)<_;omega) (Ok.bind (Ok.idxE hx) fun y _=>Ok.bind (sWhole_ok a0 hl _) fun c _=>?_)
  refine Ok.bind (Ok.appE (by show (lk.length+_)*_≤_;simp only [List.length_cons,List.length_nil];omega)) fun lk2 hlk2=>Ok.inl ⟨wrapS (by omega),lk2,rfl,?_⟩
  rw [hlk2,List.length_append]
  show lk.length+1=_
  omega
 ·obtain ⟨lk,rfl,hlk⟩:=hm
  exact Ok.no (by show ¬ ((a0.length:Int)<_);omega) (Ok.inr ⟨lk,rfl,hlk⟩)
theorem ccheck_ok (b:List Int) (s:List UInt8) (styles topics:Int):Ok (check_Check b s styles topics) fun r=>r.2=0→ ∃ l at_,code_Instrs b=some (l,(at_,0))∧AW styles [] s l∧Instrs l∧s.length≤16384∧l.length≤65537:=by
 unfold check_Check
 exact Ok.bind (run_ok' b s styles topics) fun r hr=>Ok.some hr
set_option maxRecDepth 4000 in
theorem new_ok (a0:List Sty) (a1:List Int) (a2:List UInt8) (a3 a4:Int):Ok (vm_New a0 a1 a2 a3 a4) fun r=>(r.2≠0∧r.1=none)∨(r.2=0∧ ∃ m l,r.1=some m∧Live l m∧mSteps m=0):=by
 unfold vm_New
 refine Ok.bind (Q:=fun b=>b=false→10≤a4∧a4≤200) ?_ fun b hb=>Ok.cond (fun _=>Ok.some (.inl ⟨by decide,rfl⟩)) fun h=>?_
 ·cases h1:decide (a4<10) with
  | true=>exact Ok.some (by simp)
  | false=>
   have h1:=of_decide_eq_false h1
   exact Ok.some fun h=>⟨by omega,by have:=of_decide_eq_false h;omega⟩
 have hw:=hb h
 refine Ok.bind (scheck_ok a0) fun e he=>Ok.ifs (fun h=>Ok.some (.inl ⟨h,rfl⟩)) fun h0=>Ok.ifs (fun _=>Ok.some (.inl ⟨by decide,rfl⟩)) fun _=>?_
 obtain ⟨hl64,_⟩:=he (Decidable.not_not.1 h0)
 refine Ok.bind (ccheck_ok a1 a2 _ a3) fun e2 he2=>Ok.ifs (fun h=>Ok.some (.inl ⟨h,rfl⟩)) fun h0=>?_
 obtain ⟨l,at_,hI,hA,hIn,hs,hll⟩:=he2 (Decidable.not_not.1 h0)
 refine Ok.bind (looks_ok a0 hl64 _ rfl) fun m hm=>?_
 obtain ⟨lk,rfl,hlk⟩:=hm
 refine Ok.bind (Ok.of (Q:=((l,(at_,0))= ·)) hI rfl) fun r hr=>Ok.some (.inr ⟨rfl,_,l,rfl, .inl ⟨[],a2,0,?_⟩,rfl⟩)
 subst hr
 refine { mi:={ made:=rfl,ins:=rfl,wd:=hw,d0:=⟨by show (0:Int)≤0;omega,by show (0:Int)≤32;omega⟩,st:=rfl,lp:=fun p hp=>(by cases hp),fl:=?_,ce:=Nat.le_refl _,cl:=fun p hp=>(by cases hp),mg:=⟨by show (0:Int)≤0;omega,by show (0:Int)≤196;omega⟩,mr:=by show (0:Nat)≤196;omega,ma:=by show (0:Int)≤196;omega,lk:=Nat.le_refl _,ln:=⟨by show (0:Nat)≤2000;omega,fun p hp=>(by cases hp)⟩ },li:=rfl,tx:=rfl,pc:=rfl,sp:=rfl,ha:=rfl,aw:=?_,ll:=hll }
 ·show 0+a2.length≤_
  omega
 ·show AW ((lk.length:Nat):Int) [] a2 (l.drop 0)
  rw [hlk]
  exact hA
end Go.Fn
/- Two machines that differ in what they lay out alone: they step alike. -/
namespace Go.Lf
def Pc {α:Type} (x:Option α) (Q:α→Prop):Prop:= ∀ r,x=some r→Q r
def P2 {α β:Type} (x:Option α) (y:Option β) (R:α→β→Prop):Prop:= ∀ r s,x=some r→y=some s→R r s
section
variable {α β γ δ σ κ σ' κ':Type}
theorem Pc.bind {x:Option α} {f:α→Option β} {Q:α→Prop} {R:β→Prop} (h:Pc x Q) (hf: ∀ a,Q a→Pc (f a) R):Pc (x.bind f) R:=fun r hr=>by
 obtain ⟨a,h1,h2⟩:=Option.bind_eq_some_iff.1 hr
 exact hf a (h a h1) r h2
theorem Pc.any {x:Option α} {f:α→Option β} {R:β→Prop} (hf: ∀ a,Pc (f a) R):Pc (x.bind f) R:=Pc.bind (Q:=fun _=>True) (fun _ _=>trivial) fun a _=>hf a
theorem Pc.some {a:α} {Q:α→Prop} (h:Q a):Pc (some a) Q:=fun r hr=>by injection hr with hr;subst hr;exact h
theorem Pc.inl {z:σ} {I:σ→Prop} {Q:κ→Prop} (h:I z):Pc (Option.some (Sum.inl z:σ⊕κ)) (Nx I Q):=Pc.some h
theorem Pc.inr {k:κ} {I:σ→Prop} {Q:κ→Prop} (h:Q k):Pc (Option.some (Sum.inr k:σ⊕κ)) (Nx I Q):=Pc.some h
theorem Pc.cond {b:Bool} {x y:Option α} {Q:α→Prop} (h:Pc x Q) (h':Pc y Q):Pc (cond b x y) Q:=by
 cases b
 ·exact h'
 ·exact h
theorem Pc.onSum {d:α⊕β} {f:α→Option γ} {g:β→Option γ} {Q:γ→Prop} (h: ∀ a,d= .inl a→Pc (f a) Q) (h': ∀ b,d= .inr b→Pc (g b) Q):Pc (onSum d f g) Q:=by
 cases d
 ·exact h _ rfl
 ·exact h' _ rfl
theorem Pc.iter {B:σ→Option (σ⊕κ)} {Q:κ→Prop} (I:σ→Prop) (h: ∀ z,I z→Pc (B z) (Nx I Q)): ∀ (N:Nat) (z:σ),I z→Pc (iter B N z) Q
 | 0,_,_=>fun _ hr=>by cases hr
 | N+1,z,hz=>by
  unfold Lf.iter
  refine Pc.bind (h z hz) fun d hd=>?_
  cases d with
  | inl z'=>exact Pc.iter I h N z' hd
  | inr k=>exact Pc.some hd
theorem Pc.loop {B:σ→Option (σ⊕κ)} {Q:κ→Prop} (I:σ→Prop) (h: ∀ z,I z→Pc (B z) (Nx I Q)) {z:σ} (hz:I z):Pc (loopU B z) Q:=Pc.iter I h _ z hz
theorem Pc.ends {x:Option α} {Q:α→Prop} (h:Pc x Q):Pc (x.bind fun r=>Option.some r) Q:=h.bind fun _ ha=>Pc.some ha
theorem P2.of {x:Option α} {y:Option β} {Q:α→Prop} {Q':β→Prop} {R:α→β→Prop} (h:Pc x Q) (h':Pc y Q') (hr: ∀ a b,Q a→Q' b→R a b):P2 x y R:=fun r s hx hy=>hr r s (h r hx) (h' s hy)
theorem P2.eq {x y:Option α} (h:x=y):P2 x y Eq:=fun r s hx hy=>by rw [h,hy] at hx;injection hx with hx;exact hx.symm
theorem P2.bind {x:Option α} {y:Option β} {f:α→Option γ} {g:β→Option δ} {S:α→β→Prop} {R:γ→δ→Prop} (h:P2 x y S) (hf: ∀ a b,S a b→P2 (f a) (g b) R):P2 (x.bind f) (y.bind g) R:=fun r s hx hy=>by
 obtain ⟨a,h1,h2⟩:=Option.bind_eq_some_iff.1 hx
 obtain ⟨b,h3,h4⟩:=Option.bind_eq_some_iff.1 hy
 exact hf a b (h a b h1 h3) r s h2 h4
theorem P2.any {x:Option α} {y:Option β} {f:α→Option γ} {g:β→Option δ} {R:γ→δ→Prop} (hf: ∀ a b,P2 (f a) (g b) R):P2 (x.bind f) (y.bind g) R:=P2.bind (S:=fun _ _=>True) (fun _ _ _ _=>trivial) fun a b _=>hf a b
theorem P2.same {x y:Option α} {f:α→Option γ} {g:α→Option δ} {R:γ→δ→Prop} (h:x=y) (hf: ∀ a,P2 (f a) (g a) R):P2 (x.bind f) (y.bind g) R:=P2.bind (P2.eq h) fun a b hab=>by subst hab;exact hf a
theorem P2.some {a:α} {b:β} {R:α→β→Prop} (h:R a b):P2 (some a) (some b) R:=fun r s hx hy=>by injection hx with hx;injection hy with hy;subst hx;subst hy;exact h
theorem P2.cond {b c:Bool} {x y:Option α} {x' y':Option β} {R:α→β→Prop} (hb:b=c) (h:P2 x x' R) (h':P2 y y' R):P2 (cond b x y) (cond c x' y') R:=by
 subst hb
 cases b
 ·exact h'
 ·exact h
theorem P2.ends {x:Option α} {y:Option β} {R:α→β→Prop} (h:P2 x y R):P2 (x.bind fun r=>Option.some r) (y.bind fun r=>Option.some r) R:=h.bind fun _ _ ha=>P2.some ha
def N2 (I:σ→σ'→Prop) (R:κ→κ'→Prop):σ⊕κ→σ'⊕κ'→Prop
 | .inl a, .inl b=>I a b
 | .inr a, .inr b=>R a b
 | _,_=>False
theorem P2.onSum {d:α⊕β} {e:σ⊕κ} {f:α→Option γ} {g:β→Option γ} {f':σ→Option δ} {g':κ→Option δ} {I:α→σ→Prop} {J:β→κ→Prop} {R:γ→δ→Prop} (h:N2 I J d e) (hf: ∀ a b,I a b→P2 (f a) (f' b) R) (hg: ∀ a b,J a b→P2 (g a) (g' b) R):P2 (onSum d f g) (onSum e f' g') R:=by
 cases d<;>cases e
 ·exact hf _ _ h
 ·exact h.elim
 ·exact h.elim
 ·exact hg _ _ h
theorem P2.iter {B:σ→Option (σ⊕κ)} {B':σ'→Option (σ'⊕κ')} {R:κ→κ'→Prop} (I:σ→σ'→Prop) (h: ∀ z z',I z z'→P2 (B z) (B' z') (N2 I R)): ∀ (N:Nat) (z:σ) (z':σ'),I z z'→P2 (iter B N z) (iter B' N z') R
 | 0,_,_,_=>fun _ _ hr=>by cases hr
 | N+1,z,z',hz=>by
  unfold Lf.iter
  refine P2.bind (h z z' hz) fun d e hd=>?_
  cases d<;>cases e
  ·exact P2.iter I h N _ _ hd
  ·exact hd.elim
  ·exact hd.elim
  ·exact P2.some hd
theorem P2.loop {B:σ→Option (σ⊕κ)} {B':σ'→Option (σ'⊕κ')} {R:κ→κ'→Prop} (I:σ→σ'→Prop) (h: ∀ z z',I z z'→P2 (B z) (B' z') (N2 I R)) {z:σ} {z':σ'} (hz:I z z'):P2 (loopU B z) (loopU B' z') R:=P2.iter I h _ z z' hz
end
end Go.Lf
namespace Go.Fn
open Go Go.Lf
abbrev Cor:Type:=Int×(List Chg×(List Ins×(Int×(Int×(Bool×((arT xY34 32).den×Int))))))
def core (m:MT):Cor:=(m.1,(m.2.1,(m.2.2.1,(m.2.2.2.2.2.1,(m.2.2.2.2.2.2.1,(m.2.2.2.2.2.2.2.1,(m.2.2.2.2.2.2.2.2.1,m.2.2.2.2.2.2.2.2.2.1)))))))
theorem c_made {a b:MT} (h:core a=core b):a.1=b.1:=congrArg (fun c:Cor=>c.1) h
theorem c_looks {a b:MT} (h:core a=core b):a.2.1=b.2.1:=congrArg (fun c:Cor=>c.2.1) h
theorem c_ins {a b:MT} (h:core a=core b):a.2.2.1=b.2.2.1:=congrArg (fun c:Cor=>c.2.2.1) h
theorem c_pc {a b:MT} (h:core a=core b):a.2.2.2.2.2.1=b.2.2.2.2.2.1:=congrArg (fun c:Cor=>c.2.2.2.1) h
theorem c_steps {a b:MT} (h:core a=core b):a.2.2.2.2.2.2.1=b.2.2.2.2.2.2.1:=congrArg (fun c:Cor=>c.2.2.2.2.1) h
theorem c_halt {a b:MT} (h:core a=core b):a.2.2.2.2.2.2.2.1=b.2.2.2.2.2.2.2.1:=congrArg (fun c:Cor=>c.2.2.2.2.2.1) h
theorem c_stack {a b:MT} (h:core a=core b):a.2.2.2.2.2.2.2.2.1=b.2.2.2.2.2.2.2.2.1:=congrArg (fun c:Cor=>c.2.2.2.2.2.2.1) h
theorem c_deep {a b:MT} (h:core a=core b):a.2.2.2.2.2.2.2.2.2.1=b.2.2.2.2.2.2.2.2.2.1:=congrArg (fun c:Cor=>c.2.2.2.2.2.2.2) h
theorem core_of {a b:MT} (h1:a.1=b.1) (h2:a.2.1=b.2.1) (h3:a.2.2.1=b.2.2.1) (h4:a.2.2.2.2.2.1=b.2.2.2.2.2.1) (h5:a.2.2.2.2.2.2.1=b.2.2.2.2.2.2.1) (h6:a.2.2.2.2.2.2.2.1=b.2.2.2.2.2.2.2.1) (h7:a.2.2.2.2.2.2.2.2.1=b.2.2.2.2.2.2.2.2.1) (h8:a.2.2.2.2.2.2.2.2.2.1=b.2.2.2.2.2.2.2.2.2.1):core a=core b:=by
 unfold core
 rw [h1,h2,h3,h4,h5,h6,h7,h8]
abbrev corw (m:MT) (st:(arT xY34 32).den) (d:Int):Cor:=(m.1,(m.2.1,(m.2.2.1,(m.2.2.2.2.2.1,(m.2.2.2.2.2.2.1,(m.2.2.2.2.2.2.2.1,(st,d)))))))
theorem core_w {a b m m':MT} (h:core m=core m') {st st':(arT xY34 32).den} {d d':Int} (ha:core a=corw m st d) (hb:core b=corw m' st' d') (hs:st=st') (hd:d=d'):core a=core b:=by
 rw [ha,hb,hs,hd]
 unfold corw
 rw [c_made h,c_looks h,c_ins h,c_pc h,c_steps h,c_halt h]
theorem tell_c (m:MT) (l:List Gl):Pc (vm_Machine__tell m l) fun m'=>core m'=core m:=by
 unfold vm_Machine__tell
 exact Pc.cond (Pc.some rfl) (Pc.any fun _=>Pc.some rfl)
theorem marked_c (m:MT):Pc (vm_Machine__marked m) fun r=>core r.2=core m:=by
 unfold vm_Machine__marked
 refine Pc.any fun l=>Pc.bind (Q:=fun r:List Gl×MT=>r.2=m) ?_ fun r hr=>Pc.some ?_
 ·refine Pc.loop (fun (z:List Gl×((List UInt8×Int)×MT))=>z.2.2=m) (fun z hz=>Pc.cond (Pc.any fun _=>Pc.any fun _=>Pc.inl ?_) (Pc.inr ?_)) rfl
  ·exact hz
  ·exact hz
 ·obtain ⟨r1,r2⟩:=r
  obtain rfl:r2=m:=hr
  rfl
theorem settle_c (m:MT):Pc (vm_Machine__settle m) fun m'=>core m'=core m:=by
 unfold vm_Machine__settle
 exact Pc.cond (Pc.bind (marked_c m) fun r hr=>Pc.ends fun m' hm'=>(tell_c r.2 r.1 m' hm').trans hr) (Pc.some rfl)
theorem mend_c (m:MT):Pc (vm_Machine__end m) fun m'=>core m'=core m:=by
 unfold vm_Machine__end
 refine Pc.cond (Pc.any fun _=>Pc.some rfl) (Pc.any fun r2=>Pc.bind (Q:=fun m'=>core m'=core m) (Pc.cond (Pc.ends fun m' hm'=>settle_c (wf m []) m' hm') (Pc.some rfl)) fun r4 hr4=>Pc.ends ?_)
 refine Pc.loop (fun (z:Int×MT)=>core z.2=core m) (fun z hz=>Pc.cond (Pc.any fun _=>Pc.bind (Q:=fun r:List Gl×MT=>core r.2=core m) (Pc.cond (Pc.ends fun r hr=>(marked_c z.2 r hr).trans hz) (Pc.some hz)) fun r8 hr8=>Pc.any fun _=>Pc.any fun _=>Pc.bind (tell_c r8.2 _) fun m' hm'=>Pc.inl (hm'.trans hr8)) (Pc.inr hz)) hr4
theorem mrow_c (m:MT):Pc (vm_Machine__row m) fun m'=>core m'=core m:=by
 unfold vm_Machine__row
 refine Pc.cond (Pc.some rfl) (Pc.any fun _=>Pc.bind (Q:=fun m'=>core m'=core m) ?_ fun r hr=>Pc.some ?_)
 ·refine Pc.loop (fun (z:Int×MT)=>core z.2=core m) (fun z hz=>Pc.cond (Pc.any fun _=>Pc.bind (tell_c z.2 _) fun m' hm'=>Pc.inl ?_) (Pc.inr ?_)) rfl
  ·exact hm'.trans hz
  ·exact hz
 ·exact hr
theorem glyphs_c (m:MT) (s:List UInt8):Pc (vm_Machine__glyphs m s) fun m'=>core m'=core m:=by
 unfold vm_Machine__glyphs
 refine Pc.any fun _=>Pc.ends (Pc.loop (fun (z:Int×MT)=>core z.2=core m) (fun z hz=>Pc.cond (Pc.any fun _=>Pc.any fun _=>Pc.any fun fl=>Pc.inl ?_) (Pc.inr ?_)) rfl)
 ·exact (show core (wf z.2 fl)=core z.2 from rfl).trans hz
 ·exact hz
section
variable {m m':MT} (h:core m=core m')
include h
theorem top_c:vm_Machine__top m=vm_Machine__top m':=by
 unfold vm_Machine__top
 rw [c_stack h,c_deep h]
theorem styled_c (l:Lok) (n:Int):vm_Machine__styled m l n=vm_Machine__styled m' l n:=by
 unfold vm_Machine__styled
 rw [c_looks h]
theorem push_c (k n:Int) (l:Lok):P2 (vm_Machine__push m k n l) (vm_Machine__push m' k n l) fun a b=>core a=core b:=by
 unfold vm_Machine__push
 refine P2.same (by rw [c_deep h]) fun j=>P2.any fun _ _=>P2.some (core_w h rfl rfl ?_ ?_)
 ·rw [c_stack h]
 ·rw [c_deep h]
theorem pop_c:P2 (vm_Machine__pop m) (vm_Machine__pop m') fun a b=>a.1=b.1∧core a.2=core b.2:=by
 unfold vm_Machine__pop
 refine P2.same (by rw [c_deep h]) fun j=>P2.same (by rw [c_stack h]) fun f=>P2.same (by rw [c_deep h]) fun j2=>P2.any fun _ _=>P2.some ⟨rfl,core_w h rfl rfl ?_ ?_⟩
 ·rw [c_stack h]
 ·rw [c_deep h]
theorem mark_c:P2 (vm_Machine__mark m) (vm_Machine__mark m') fun a b=>core a=core b:=by
 unfold vm_Machine__mark
 refine P2.any fun _ _=>P2.same (by rw [c_deep h]) fun r2=>P2.same (by rw [c_stack h]) fun r3=>P2.same (by rw [c_stack h]) fun r4=>P2.any fun r5 r5'=>?_
 have hL: ∀ {x:Option MT},Pc x (fun a=>core a=corw m (arS xY34 32 m.2.2.2.2.2.2.2.2.1 r2 (r4.1,(IntKind.wrap .i64 (r3.2.1+1),r4.2.2))) m.2.2.2.2.2.2.2.2.2.1)→ ∀ {y:Option MT},Pc y (fun a=>core a=corw m' (arS xY34 32 m'.2.2.2.2.2.2.2.2.1 r2 (r4.1,(IntKind.wrap .i64 (r3.2.1+1),r4.2.2))) m'.2.2.2.2.2.2.2.2.2.1)→P2 x y fun a b=>core a=core b:=fun hx y hy=>P2.of hx hy fun a b ha hb=>core_w h ha hb (by rw [c_stack h]) (c_deep h)
 refine hL ?_ ?_
 ·exact Pc.cond (Pc.any fun _=>Pc.any fun _=>Pc.any fun _=>Pc.any fun _=>Pc.any fun _=>Pc.any fun _=>Pc.some rfl) (Pc.any fun _=>Pc.any fun _=>Pc.any fun _=>Pc.some rfl)
 ·exact Pc.cond (Pc.any fun _=>Pc.any fun _=>Pc.any fun _=>Pc.any fun _=>Pc.any fun _=>Pc.any fun _=>Pc.some rfl) (Pc.any fun _=>Pc.any fun _=>Pc.any fun _=>Pc.some rfl)
end
theorem inline_c {m m':MT} (h:core m=core m') (i:Ins):P2 (vm_Machine__inline m i) (vm_Machine__inline m' i) fun a b=>core a=core b:=by
 unfold vm_Machine__inline
 refine P2.bind (S:=N2 (fun (p q:MT×Ins)=>core p.1=core q.1∧p.2=i∧q.2=i) (N2 (fun (p q:MT)=>core p=core q) (fun (p q:MT)=>core p=core q))) ?_ fun d e hd=>P2.onSum hd (fun a b hab=>?_) fun d e hd=>P2.onSum hd (fun a b hab=>?_) fun a b hab=>P2.some hab
 ·refine P2.cond rfl (P2.any fun r1 r1'=>P2.bind (P2.of (glyphs_c m r1) (glyphs_c m' r1') fun a b ha hb=>ha.trans (h.trans hb.symm)) fun r2 r2' hr=>P2.any fun _ _=>P2.some hr) ?_
  refine P2.cond rfl (P2.any fun _ _=>P2.any fun _ _=>P2.some h) ?_
  refine P2.cond rfl (P2.any fun _ _=>P2.any fun _ _=>P2.some h) ?_
  refine P2.cond rfl (P2.same (top_c h) fun r8=>P2.same (styled_c h _ _) fun r9=>P2.bind (push_c h _ _ _) fun _ _ hab=>P2.some hab) ?_
  refine P2.cond rfl (P2.some ⟨h,rfl,rfl⟩) ?_
  refine P2.cond rfl (P2.some ⟨h,rfl,rfl⟩) ?_
  exact P2.cond rfl (P2.some h) (P2.some h)
 ·obtain ⟨a,ai⟩:=a
  obtain ⟨b,bi⟩:=b
  obtain ⟨hc,rfl,hi⟩:=hab
  dsimp only at hc hi
  subst hi
  refine P2.bind (S:=fun (q q':MT×(Ins×(Int×(Int×Unit))))=>core q.1=core q'.1∧q.2=q'.2) (P2.cond rfl (P2.some ⟨hc,rfl⟩) (P2.some ⟨hc,rfl⟩)) fun q q' hq=>?_
  obtain ⟨q,q2⟩:=q
  obtain ⟨q',q2'⟩:=q'
  obtain ⟨hc,rfl⟩:=hq
  dsimp only at hc
  refine P2.any fun l l'=>?_
  have h2:core (u20 q (((l.length:Nat):Int),(l,q.2.2.2.2.2.2.2.2.2.2.2.2.2.2.2.2.2.2.2.2.2.2)))=core (u20 q' (((l'.length:Nat):Int),(l',q'.2.2.2.2.2.2.2.2.2.2.2.2.2.2.2.2.2.2.2.2.2.2))):=hc
  exact P2.same (top_c h2) fun t=>P2.ends (push_c h2 _ _ _)
 ·refine P2.ends (P2.bind (pop_c hab) fun r r' hr=>P2.cond (by rw [hr.1]) (P2.some hr.2) (P2.some hr.2))
theorem block_c {m m':MT} (h:core m=core m') (i:Ins):P2 (vm_Machine__block m i) (vm_Machine__block m' i) fun a b=>core a=core b:=by
 unfold vm_Machine__block
 have hst: ∀ {a b:MT},core a=core b→P2 (vm_Machine__settle a) (vm_Machine__settle b) fun x y=>core x=core y:=fun {a b} hab=>P2.of (settle_c a) (settle_c b) fun x y hx hy=>hx.trans (hab.trans hy.symm)
 have hrw: ∀ {a b:MT},core a=core b→P2 (vm_Machine__row a) (vm_Machine__row b) fun x y=>core x=core y:=fun {a b} hab=>P2.of (mrow_c a) (mrow_c b) fun x y hx hy=>hx.trans (hab.trans hy.symm)
 refine P2.cond rfl (P2.bind (S:=fun (p q:MT×Ins)=>core p.1=core q.1∧p.2=i∧q.2=i) ?_ fun p q hpq=>?_) ?_
 ·have hp: ∀ {m:MT},Pc ((bif m.2.2.2.2.2.2.2.2.2.2.2.2.2.2.2.2.2.2.2.1 then bif (decide ((m.2.2.2.2.2.2.2.2.2.2.2.2.2.2.2.2.2.1:List (UInt8))=([]:List (UInt8)))) then some ((!m.2.2.2.2.2.2.2.2.2.2.2.2.2.2.1),(m,i))
   else some (false,(m,i))
   else some (false,(m,i))).bind fun r1=>
  bif r1.1 then ((Go.Fn.vm_Machine__tell r1.2.1 ([]:List Gl))).bind fun r2=>
  some (r2,r1.2.2)
  else some r1.2) fun p:MT×Ins=>core p.1=core m∧p.2=i:=fun {m}=>Pc.bind (Q:=fun b:Bool×(MT×Ins)=>b.2=(m,i)) (Pc.cond (Pc.cond (Pc.some rfl) (Pc.some rfl)) (Pc.some rfl)) fun b hb=>by
   obtain ⟨c,b⟩:=b
   obtain rfl:=hb
   exact Pc.cond (Pc.bind (tell_c m []) fun m2 hm2=>Pc.some ⟨hm2,rfl⟩) (Pc.some ⟨rfl,rfl⟩)
  exact P2.of hp hp fun p q h1 h2=>⟨h1.1.trans (h.trans h2.1.symm),h1.2,h2.2⟩
 ·obtain ⟨p,pi⟩:=p
  obtain ⟨q,qi⟩:=q
  obtain ⟨hc,rfl,hi⟩:=hpq
  dsimp only at hc hi
  subst hi
  have h2:core (u11 p (([]:List Gl),p.2.2.2.2.2.2.2.2.2.2.2.2))=core (u11 q (([]:List Gl),q.2.2.2.2.2.2.2.2.2.2.2.2)):=hc
  exact P2.same (top_c h2) fun t=>P2.same (styled_c h2 _ _) fun l=>P2.ends (push_c h2 _ _ _)
 refine P2.cond rfl (P2.bind (pop_c h) fun r r' hr=>P2.ends (P2.of (mend_c r.2) (mend_c r'.2) fun x y hx hy=>hx.trans (hr.2.trans hy.symm))) ?_
 refine P2.cond rfl (P2.bind (hst h) fun a b hab=>P2.any fun l l'=>P2.ends (push_c (m:=u10 a (l,a.2.2.2.2.2.2.2.2.2.2.2)) (m':=u10 b (l',b.2.2.2.2.2.2.2.2.2.2.2)) hab _ _ _)) ?_
 refine P2.cond rfl (P2.bind (hst h) fun a b hab=>P2.ends (mark_c hab)) ?_
 refine P2.cond rfl (P2.any fun c c'=>P2.ends (push_c (m:=u13 m (c.1,(true,m.2.2.2.2.2.2.2.2.2.2.2.2.2.2.2))) (m':=u13 m' (c'.1,(true,m'.2.2.2.2.2.2.2.2.2.2.2.2.2.2.2))) h _ _ _)) ?_
 refine P2.cond rfl (P2.bind (hrw h) fun a b hab=>P2.same (by rw [c_deep hab]) fun j=>P2.same (by rw [c_stack hab]) fun f=>P2.same (by rw [c_deep hab]) fun j2=>P2.same (by rw [c_stack hab]) fun f2=>P2.some (core_w (m:=a) (m':=b) hab rfl rfl ?_ ?_)) ?_
 ·rw [c_stack hab]
 ·have e:=c_deep hab
  exact e
 refine P2.cond rfl (P2.bind (pop_c h) fun r r' hr=>P2.cond (by rw [hr.1]) (P2.bind (hrw hr.2) fun a b hab=>P2.some hab) (P2.bind (hst hr.2) fun a b hab=>P2.any fun _ _=>P2.any fun _ _=>P2.any fun _ _=>P2.some hab)) (P2.some h)
theorem step_c {m m':MT} (h:core m=core m'):P2 (vm_Machine__Step m) (vm_Machine__Step m') fun a b=>a.1=b.1∧core a.2=core b.2:=by
 unfold vm_Machine__Step
 refine P2.same (by unfold vm_Machine__is;rw [c_made h]) fun r1=>P2.cond rfl (P2.some ⟨rfl,h⟩) (P2.cond (c_halt h) (P2.some ⟨rfl,h⟩) (P2.same (by rw [c_ins h,c_pc h]) fun i=>P2.cond rfl (P2.some ⟨rfl,?_⟩) ?_))
 ·have e1:=c_made h
  have e2:=c_looks h
  have e3:=c_ins h
  have e4:=c_pc h
  have e5:IntKind.wrap .i64 (m.2.2.2.2.2.2.1+1)=IntKind.wrap .i64 (m'.2.2.2.2.2.2.1+1):=by rw [c_steps h]
  have e7:=c_stack h
  have e8:=c_deep h
  exact core_of e1 e2 e3 e4 e5 rfl e7 e8
 ·have h2:core (u5 m ((IntKind.wrap .i64 (m.2.2.2.2.2.1+1)),((IntKind.wrap .i64 (m.2.2.2.2.2.2.1+1)),m.2.2.2.2.2.2.2)))=core (u5 m' ((IntKind.wrap .i64 (m'.2.2.2.2.2.1+1)),((IntKind.wrap .i64 (m'.2.2.2.2.2.2.1+1)),m'.2.2.2.2.2.2.2))):=by
   have e1:=c_made h
   have e2:=c_looks h
   have e3:=c_ins h
   have e4:IntKind.wrap .i64 (m.2.2.2.2.2.1+1)=IntKind.wrap .i64 (m'.2.2.2.2.2.1+1):=by rw [c_pc h]
   have e5:IntKind.wrap .i64 (m.2.2.2.2.2.2.1+1)=IntKind.wrap .i64 (m'.2.2.2.2.2.2.1+1):=by rw [c_steps h]
   have e6:=c_halt h
   have e7:=c_stack h
   have e8:=c_deep h
   exact core_of e1 e2 e3 e4 e5 e6 e7 e8
  exact P2.bind (inline_c h2 i) fun a b hab=>P2.bind (block_c hab i) fun c d hcd=>P2.some ⟨rfl,hcd⟩
end Go.Fn
/- Where a machine stands, plainly. -/
namespace Go.Fn
open Go Go.Lf
theorem ne_self {α β:Type} [DecidableEq α] {a:α} {x y:β}:(bif (!(decide (a≠a))) then x else y)=x:=by
 rw [decide_eq_false (by simp)];rfl
theorem sameF_ok (l:List Fr) (hl:l.length≤1000000):Ok (folioref18_SameFrames l l) (· =true):=by
 unfold folioref18_SameFrames
 refine Ok.no (by simp) ?_
 refine Ok.bind (Q:=Nx (fun _=>True) (fun _=>False)) ?_ fun d hd=>?_
 ·refine Ok.range0 l (by omega) (fun _=>True) (fun i x hx _=>?_) (fun _=>?_) trivial
  ·have hlt:=at_len hx
   refine Ok.yes (by omega) (Ok.bind (Q:=(· =false)) ?_ fun b hb=>?_)
   ·have hi: ∀ {β:Type} {f:Fr→Option β} {Q:β→Prop},Ok (f x) Q→Ok ((idx l (i:Int)).bind f) Q:=fun h=>Ok.bind (Ok.idxE hx) fun y hy=>by subst hy;exact h
    refine hi (hi ?_)
    rw [ne_self]
    refine hi (hi ?_)
    rw [ne_self]
    refine hi (hi ?_)
    rw [ne_self]
    exact hi (hi (Ok.some (by simp)))
   ·subst hb
    exact Ok.inl ⟨wrapS (by omega),trivial⟩
  ·exact Ok.no (by omega) (Ok.inr trivial)
 ·cases d with
  | inl _=>exact Ok.onL (Ok.some rfl)
  | inr _=>exact hd.elim
theorem Live.facts {l:List Ins} {m:MT} (h:Live l m):m.1=1∧ ∃ ks n,MI l ks n m∧mPc m=n∧n<l.length∧l.length≤65537:=by
 rcases h with ⟨ks,s,n,h⟩ | ⟨n,h⟩
 ·refine ⟨h.mi.made,ks,n,h.mi,h.pc,?_,h.ll⟩
  rcases Nat.lt_or_ge n l.length with h1 | h1
  ·exact h1
  ·have:=h.aw
   rw [List.drop_eq_nil_of_le h1] at this
   cases this
 ·exact ⟨h.mi.made,[],n,h.mi,h.pc,by have:=h.nl;omega,h.ll⟩
section
variable {l:List Ins} {m:MT}
theorem is_bind {β:Type} {f:Bool→Option β} {Q:β→Prop} (h:m.1=1) (hf:Ok (f true) Q):Ok ((vm_Machine__is m).bind f) Q:=by rw [is_ok h];exact hf
theorem at_ok (h:Live l m):Ok (vm_Machine__At m) fun _=>True:=by
 obtain ⟨h1,ks,n,hm,hp,hn,_⟩:=h.facts
 unfold vm_Machine__At
 refine is_bind h1 (Ok.cond (fun h=>by cases h) fun _=>Ok.bind (Q:=fun _=>True) ⟨l[n],?_,trivial⟩ fun _ _=>Ok.some trivial)
 show idx (mInstrs m) (mPc m)=_
 rw [hm.ins,hp,idx_nat,List.getElem?_eq_getElem hn]
theorem stack_ok (h:Live l m):Ok (vm_Machine__Stack m) fun r=>r.2=m∧r.1.length≤1000:=by
 obtain ⟨h1,ks,n,hm,_⟩:=h.facts
 unfold vm_Machine__Stack
 have hd:=hm.d0
 refine is_bind h1 (Ok.cond (fun h=>by cases h) fun _=>Ok.bind (Ok.chk (Q:=fun j=>j≤32) hd.1 (by show mDeep m<33;omega) (by show (mDeep m).toNat≤32;omega)) fun j hj=>?_)
 have hl:=mst_len m
 refine Ok.bind (Q:=fun t=>t.length≤1000) ?_ fun t ht=>Ok.some ⟨rfl,ht⟩
 refine ⟨List.take j (mst m),?_,by show (List.take j (mst m)).length≤1000;rw [List.length_take];omega⟩
 show app 32 [] (List.take j (mst m))=_
 rw [app_of (by rw [List.length_take,List.length_nil];omega),List.nil_append]
theorem halted_eq (h:m.1=1):vm_Machine__Halted m=some (mHalted m):=by
 unfold vm_Machine__Halted
 rw [is_ok h]
 rfl
end
end Go.Fn
/- Chapter 18's first example, reckoned. -/
namespace Go.Fn
open Go Go.Lf
theorem awake:foliolaw18_awake=some true:=by kernel_rfl
end Go.Fn
/- At another width the same stack, step by step. -/
namespace Go.Fn
open Go Go.Lf
theorem new_c (a0:List Sty) (a1:List Int) (a2:List UInt8) (a3 a4 a5:Int):P2 (vm_New a0 a1 a2 a3 a4) (vm_New a0 a1 a2 a3 a5) fun r r'=> ∀ m m',r.1=some m→r'.1=some m'→core m=core m':=by
 have hn: ∀ {x y:Option (Option MT×Int)},Pc x (fun r=>r.1=none)→P2 x y fun r r'=> ∀ m m',r.1=some m→r'.1=some m'→core m=core m':=fun {x y} h=>P2.of (Q':=fun _=>True) h (fun _ _=>trivial) fun a b ha _ m m' hm=>by rw [ha] at hm;cases hm
 have hn': ∀ {x y:Option (Option MT×Int)},Pc y (fun r=>r.1=none)→P2 x y fun r r'=> ∀ m m',r.1=some m→r'.1=some m'→core m=core m':=fun {x y} h=>P2.of (Q:=fun _=>True) (fun _ _=>trivial) h fun a b _ hb m m' _ hm=>by rw [hb] at hm;cases hm
 unfold vm_New
 refine P2.any fun b b'=>?_
 cases b with
 | true=>exact hn (Pc.some rfl)
 | false=>
  cases b' with
  | true=>exact hn' (Pc.some rfl)
  | false=>
   refine P2.same rfl fun e=>P2.cond rfl (hn (Pc.some rfl)) (P2.cond rfl (hn (Pc.some rfl)) (P2.same rfl fun c=>P2.cond rfl (hn (Pc.some rfl)) ?_))
   refine P2.bind (S:=fun (x y:MT)=>core x=core y) ?_ fun r r' h=>P2.same rfl fun l=>P2.some fun m m' hm hm'=>?_
   ·refine P2.loop (fun (z z':Int×MT)=>z.1=z'.1∧core z.2=core z'.2) (fun z z' hz=>?_) ⟨rfl,rfl⟩
    obtain ⟨n,z⟩:=z
    obtain ⟨n',z'⟩:=z'
    obtain ⟨h1,h2⟩:=hz
    dsimp only at h1 h2
    subst h1
    refine P2.cond rfl (P2.same rfl fun st=>P2.same rfl fun w=>P2.same (by rw [c_looks h2]) fun lk=>P2.some ⟨rfl,?_⟩) (P2.some h2)
    have e1:=c_made h2
    have e3:=c_ins h2
    have e4:=c_pc h2
    have e5:=c_steps h2
    have e6:=c_halt h2
    have e7:=c_stack h2
    have e8:=c_deep h2
    exact core_of e1 rfl e3 e4 e5 e6 e7 e8
   ·injection hm with hm
    injection hm' with hm'
    have e1:=c_made h
    have e2:=c_looks h
    have e4:=c_pc h
    have e5:=c_steps h
    have e6:=c_halt h
    have e7:=c_stack h
    have e8:=c_deep h
    rw [← hm, ← hm']
    exact core_of e1 e2 rfl e4 e5 e6 e7 e8
theorem at_c {a b:MT} (h:core a=core b):vm_Machine__At a=vm_Machine__At b:=by
 unfold vm_Machine__At vm_Machine__is
 rw [c_made h,c_ins h,c_pc h]
theorem stack_c {a b:MT} (h:core a=core b):P2 (vm_Machine__Stack a) (vm_Machine__Stack b) fun r s=>r.1=s.1:=by
 unfold vm_Machine__Stack
 refine P2.same (by unfold vm_Machine__is;rw [c_made h]) fun r1=>P2.cond rfl (fun _ _ hr=>by cases hr) (P2.same (by rw [c_deep h]) fun j=>P2.same (by rw [c_stack h]) fun l=>P2.some rfl)
theorem Live.next {l:List Ins} {m:MT} (h:Live l m):Ok (vm_Machine__Step m) fun r=>Live l r.2:=h.step.imp fun r hr=>by
 rcases hr with ⟨_,rfl⟩ | ⟨_,_,h,_⟩
 ·exact h
 ·exact h
theorem widths_true (a0:List Sty) (a1:List Int) (a2:List UInt8) (a3 a4 a5:Int) (h0:a0.length*56≤140737488351232) (h1:a1.length*1≤140737488351232):foliolaw18_VmWidths a0 a1 a2 a3 a4 a5=some true:=by
 refine Ok.eq ?_
 unfold foliolaw18_VmWidths
 rw [awake]
 refine Ok.sb (Ok.cond (fun h=>by cases h) fun _=>?_)
 have ht:foliolaw18_twin a0=some a0:=by
  unfold foliolaw18_twin
  rw [app_of (by rw [List.length_nil];omega),List.nil_append]
  rfl
 have hb:app 1 [] a1=some a1:=by rw [app_of (by rw [List.length_nil];omega),List.nil_append]
 rw [ht]
 refine Ok.sb ?_
 rw [hb]
 refine Ok.sb ?_
 obtain ⟨⟨x,e⟩,hN,hN2⟩:=new_ok a0 a1 a2 a3 a4
 obtain ⟨⟨y,g⟩,hM,hM2⟩:=new_ok a0 a1 a2 a3 a5
 have hcore:=new_c a0 a1 a2 a3 a4 a5 _ _ hN hM
 rw [hN]
 refine Ok.sb ?_
 refine Ok.sb ?_
 refine Ok.sb ?_
 rw [hM]
 refine Ok.sb ?_
 dsimp only at hN2 hM2 hcore ⊢
 rcases hN2 with ⟨he,rfl⟩ | ⟨rfl,m,l,rfl,hL,_⟩
 ·refine Ok.bind (Q:=fun q:Bool×(Option MT×Option MT)=>q.1=true) ?_ fun q hq=>?_
  ·rw [decide_eq_true he]
   exact Ok.some rfl
  ·exact Ok.cond (fun _=>Ok.some rfl) fun h=>by rw [hq] at h;cases h
 rcases hM2 with ⟨hg,rfl⟩ | ⟨rfl,m',l',rfl,hL',_⟩
 ·refine Ok.bind (Q:=fun q:Bool×(Option MT×Option MT)=>q.1=true) ?_ fun q hq=>?_
  ·rw [decide_eq_true hg]
   exact Ok.some rfl
  ·exact Ok.cond (fun _=>Ok.some rfl) fun h=>by rw [hq] at h;cases h
 have hcore:=hcore m m' rfl rfl
 refine Ok.bind (Q:=fun q=>q=(false,((some m':Option MT),(some m:Option MT)))) (Ok.some rfl) fun q hq=>?_
 subst hq
 refine Ok.cond (fun h=>by cases h) fun _=>Ok.sb (Ok.sb ?_)
 refine Ok.bind (Q:=Nx (fun _=>True) (fun _=>False)) ?_ fun d hd=>?_
 ·refine Ok.loop (fun k (z:Int×(MT×MT))=> ∃ j:Nat,z.1=j∧j+k=300∧Live l z.2.2∧Live l' z.2.1∧core z.2.2=core z.2.1) (fun k z hz=>?_) 300 _ (by omega) ⟨0,rfl,rfl,hL,hL',hcore⟩
  obtain ⟨n,y,x⟩:=z
  obtain ⟨j,hj,hjk,hx,hy,hc⟩:=hz
  dsimp only at hj hx hy hc ⊢
  subst hj
  refine Ok.bind (Q:=fun q:Bool×(MT×MT)=>q.2=(y,x)∧(q.1=true→j<300)) ?_ fun q hq=>?_
  ·refine Ok.ifs (fun h=>?_) fun _=>Ok.some ⟨rfl,fun h=>(by cases h)⟩
   rw [halted_eq hx.made]
   exact Ok.sb (Ok.some ⟨rfl,fun _=>by omega⟩)
  ·obtain ⟨c,q⟩:=q
   obtain ⟨rfl,hlt⟩:=hq
   refine Ok.cond (fun hc1=>?_) fun _=>Ok.inr trivial
   have hlt:=hlt hc1
   dsimp only
   obtain ⟨r,hr,hxl⟩:=hx.next
   obtain ⟨s,hs,hyl⟩:=hy.next
   obtain ⟨h3,h4⟩:=step_c hc r s hr hs
   refine Ok.bind (Q:=fun q=>q=(false,(s.2,r.2))) ?_ fun q hq=>?_
   ·rw [hr]
    refine Ok.sb ?_
    rw [hs]
    refine Ok.sb ?_
    rw [h3,ne_self]
    obtain ⟨a,ha,_⟩:=at_ok hxl
    rw [← at_c h4,ha]
    refine Ok.sb (Ok.sb ?_)
    rw [ne_self,halted_eq hxl.made,halted_eq hyl.made]
    refine Ok.sb (Ok.sb ?_)
    rw [show mHalted r.2=mHalted s.2 from c_halt h4,ne_self]
    obtain ⟨t,ht1,ht2,ht3⟩:=stack_ok hxl
    obtain ⟨u,hu1,hu2,hu3⟩:=stack_ok hyl
    have htu:=stack_c h4 t u ht1 hu1
    rw [ht1]
    refine Ok.sb ?_
    rw [hu1]
    refine Ok.sb ?_
    rw [← htu]
    refine Ok.bind (sameF_ok t.1 (by omega)) fun b hb=>Ok.some ?_
    rw [hb,ht2,hu2]
    rfl
   ·subst hq
    exact Ok.cond (fun h=>by cases h) fun _=>Ok.inl ⟨k - 1,by omega,j+1,wrapS (by omega),by omega,hxl,hyl,h4⟩
 ·cases d with
  | inl _=>exact Ok.onL (Ok.some rfl)
  | inr _=>exact hd.elim
end Go.Fn
/- What the world holds lasts. -/
namespace Go.Fn
open Go Go.Lf Go.Proofs Go.Shelf Go.RowKit
theorem tabs_below {w w':World} (h:Lib.Utf8Tabs 0 1 w) (hb:Below w.heap.size w w'):Lib.Utf8Tabs 0 1 w':=by
 have key: ∀ (g o:Nat) (v:Value),w.cell? ⟨g,o,none⟩=some v→w'.cell? ⟨g,o,none⟩=some v:=fun g o v hv=>by
  have hlt:g<w.heap.size:=by
   rcases Nat.lt_or_ge g w.heap.size with h1 | h1
   ·exact h1
   ·simp [World.cell?,Array.getElem?_eq_none h1] at hv
  obtain ⟨_,_,_,_,h5⟩:=hb
  have:=h5 g hlt
  unfold World.cell? at hv ⊢
  rw [this]
  exact hv
 exact ⟨fun c hc=>key _ _ _ (h.1 c hc),fun i hi=>⟨key _ _ _ (h.2 i hi).1,key _ _ _ (h.2 i hi).2⟩⟩
end Go.Fn
/-
  From a function's entry to a row's statement: the arguments are opened, nothing old has turned, so all reads as before.
-/
namespace Go.Lf
open Go Go.Eng Go.RowKit Go.ChangeShapes Go.WideShapes Go.ChangeMaps Go.ChangeAt
section
variable {H:Type} {enc:TypeId×Value→H} {P:Program}
def allRead (P:Program) (ts:List TypeId):Bool:=ts.all fun t=>P.readableRec t && decide (t<P.types.size)
theorem trodAll_stay (hl:laidOutB P=true) {W W':World} (hb:Below W.heap.size W W'): ∀ (ts:List TypeId) (vs:List Value) (ds:List (DataW H)) (ps:List MemPlace),allRead P ts=true→
  DataW.TrodAll enc P W 0 (fun _=>true) true ts vs ds ps→(∀ x∈ps,x.block<W.heap.size)→DataW.TrodAll enc P W' 0 (fun b=>decide (b<W.heap.size)) true ts vs ds ps
 | [],[],[],_,_,h,_=>h
 | [],_::_,_,_,_,h,_=>h.elim
 | [],[],_::_,_,_,h,_=>h.elim
 | _::_,[],_,_,_,h,_=>h.elim
 | _::_,_::_,[],_,_,h,_=>h.elim
 | t::ts,v::vs,d::ds,ps,hr,h,hlt=>by
  obtain ⟨p,q,h1,h2,rfl⟩:=h
  simp only [allRead,List.all_cons,Bool.and_eq_true,decide_eq_true_eq] at hr
  exact ⟨p,q,Below.trod hl hr.1.1 hr.1.2 h1 hb (fun x hx=>hlt x (List.mem_append_left _ hx)),trodAll_stay hl hb ts vs ds q hr.2 h2 (fun x hx=>hlt x (List.mem_append_right _ hx)),rfl⟩
theorem law_post {f:Func} {s:ChangeSpec} {W W':World} {args:Array Value} {ds gs:List (DataW H)} {before:List MemPlace} {tb:TypeId} (hl:laidOutB P=true) (hr:allRead P f.params.toList=true) (hv:s.vars=[])
  (hres:f.resultTypes= #[tb]) (htb:P.underlying tb=some .bool) (hW:DataW.Whole enc P f.params.toList s.vars false W args.toList ds gs before)
  (hs:s.fn H (ds++gs)={ results:=[.lit (.bool true)],args:=ds,vars:=[] }) (hb:Below W.heap.size W W'):s.post enc P f false true false false W args (.bool true) W':=by
 have hlt: ∀ p∈before,p.block<W.heap.size:=fun p hp=>hW.lt p hp
 have hW0:=hW
 obtain ⟨p,q,hA,hV,hps,_,_⟩:=hW
 rw [hv] at hV
 obtain ⟨rfl,rfl⟩:=trodVars_none hV
 refine ⟨ds,[],before,[],p,[],hW0,?_,?_,?_,hb.frame _,fun h=>by cases h⟩
 ·rw [hs,hres]
  exact trodAll_mk1 (shut_bool htb true)
 ·rw [hs]
  exact trodAll_stay hl hb _ _ _ _ hr hA (fun x hx=>hlt x (by rw [hps];exact List.mem_append_left _ hx))
 ·rw [hs,hv]
  rfl
end
def start (W:World):Cx:=⟨W,[],fun _=>none⟩
def Lasts (W:World) (I:World→Prop):Prop:= ∀ w',Below W.heap.size W w'→I w'
theorem Lasts.and {W:World} {I J:World→Prop} (h:Lasts W I) (k:Lasts W J):Lasts W (fun w=>I w∧J w):=fun w' hb=>⟨h w' hb,k w' hb⟩
theorem Lasts.of {W:World} {p:Prop} (h:p):Lasts W (fun _=>p):=fun _ _=>h
theorem hb_start {W:World} {I:World→Prop} (h:Lasts W I):Hb (start W) (start W).w0 [] I:=
 ⟨⟨rfl,rfl,rfl,Nat.le_refl _,fun _ _ _=>rfl,fun c hc=>absurd hc (by simp [start]),fun c hc=>absurd hc (by simp [start]),fun c hc=>absurd hc (by simp),fun c hc=>absurd hc (by simp),List.Pairwise.nil,fun k m hk=>by cases hk⟩,
  fun w' hx=>h w' ⟨hx.os,hx.tape,hx.output,hx.size,fun k hk=>hx.block k hk rfl (fun c hc=>absurd hc (by simp))⟩⟩
theorem cell_lt {W:World} {a:Addr} {v:Value} (h:W.cell? a=some v):a.block<W.heap.size:=by
 rcases Nat.lt_or_ge a.block W.heap.size with h1 | h1
 ·exact h1
 ·simp [World.cell?,Array.getElem?_eq_none h1] at h
def phiOf (W:World):Phi:=⟨fun a=>W.cell? a,fun _=>False⟩
theorem lasts_agree (W:World):Lasts W (Agree (phiOf W)):=fun _ hb=>⟨fun _ _ h=>(hb.cell (cell_lt h)).trans h,fun _ h=>h.elim⟩
theorem lasts_var {P:Program} {W:World} {name:String} {cs:Array Value} (h:W.var? P name=some cs):Lasts W (fun w=>w.var? P name=some cs):=fun w' hb=>by
 unfold World.var? at*
 cases hg:P.globalNamed name with
 | none=>rw [hg] at h;simp at h
 | some g=>
  rw [hg] at h
  simp only [Option.bind_some] at*
  by_cases hlt:g<W.heap.size
  ·rw [hb.block g hlt];exact h
  ·rw [Array.getElem?_eq_none (by omega)] at h;simp at h
theorem law_calls {P:Program} {G:World→Prop} {f:Nat} {e:Entry} {z:prodT (e.ps.map Par.ty)} {W:World} {vals:List Value} (he:EntryOk P G f e) (hr:e.rs=[.bool]) (_ho:outs e.ps=[]) {r:prodT (e.rs++outs e.ps)} (hz:e.f z=some r) (ht:unProd (e.rs++outs e.ps) r=[⟨.bool,true⟩])
  (ha:ArgsR (phiOf W) e.ps z vals [] []) (hG:Lasts W G):Calls P f vals.toArray W fun e W'=>e= .returned (.bool true)∧Below W.heap.size W W':=by
 refine Calls.mono (he.ok z r hz (start W) (phiOf W) vals [] [] ha (hb_start (hG.and (lasts_agree W)))) ?_
 rintro x w' ⟨v,φ',h1,h2,rfl,_,hb,⟨vs,hv,rfl⟩,_⟩
 rw [ht,hr] at hv
 refine ⟨?_,hb.hp.os,hb.hp.tape,hb.hp.output,hb.hp.size,fun k hk=>hb.hp.keep k hk (by simp [start,free])⟩
 cases hv with
 | cons a1 a2 a3=>
  cases a3
  obtain ⟨rfl,_⟩:=a2
  rfl
section
variable {H:Type} (enc:TypeId×Value→H) (P:Program) (W:World)
def Light (P:Program) (t:TypeId) (d:DataW H):Prop:= ∀ x∈d.weights P t,x≤reachBytes
end
def rnd (o a:Nat):Nat:=(o+a - 1) / a*a
def Ty.aln:Ty→Nat
 | .int k=>k.bits / 8
 | .bool=>1
 | .unit=>1
 | .st t=>t.aln
 | .pr a b=>max a.aln b.aln
 | _=>8
mutual
def Ty.byt:Ty→Nat
 | .int k=>k.bits / 8
 | .bool=>1
 | .str=>16
 | .sl _=>24
 | .rw _ _=>24
 | .mr _ _=>24
 | .it=>8
 | .itd=>8
 | .dead _ _=>24
 | .eb _ _=>16
 | .op _=>8
 | .bx _ _=>8
 | .on _=>8
 | .fl _=>8
 | .bo _ _=>8
 | .bn=>8
 | .tr=>16
 | .ml _ _ _=>24
 | .ptr _=>8
 | .st t=>rnd (t.end_ 0) t.aln
 | _=>0
def Ty.end_:Ty→Nat→Nat
 | .pr a b,o=>b.end_ (rnd o a.aln+a.byt)
 | _,o=>o
end
def Wf:(t:Ty)→t.den→Prop
 | .int k,x=>k.min≤x∧x≤k.max
 | .str,x=>List.length x≤140737488351232
 | .sl t,l=>List.length l*t.byt≤140737488351232∧ ∀ x∈(l:List t.den),Wf t x
 | .st t,x=>Wf t x
 | .pr a b,x=>Wf a x.1∧Wf b x.2
 | _,_=>True
def Sz:(t:Ty)→t.den→Nat
 | .str,x=>List.length x
 | .sl t,l=>((l:List t.den).map (Sz t)).sum+List.length l
 | .st t,x=>Sz t x
 | .pr a b,x=>Sz a x.1+Sz b x.2
 | _,_=>0
mutual
def bulk {H:Type}:DataW H→Nat
 | .lit (.string b)=>b.length
 | .slice es _=>bulkAll es+es.length
 | .agg ps=>bulkAll ps
 | _=>0
def bulkAll {H:Type}:List (DataW H)→Nat
 | []=>0
 | d::r=>bulk d+bulkAll r
end
theorem bulkAll_map {H:Type}: ∀ l:List (DataW H),bulkAll l=(l.map bulk).sum
 | []=>rfl
 | d::r=>by
  rw [bulkAll,bulkAll_map r];rfl
theorem sum_le2 {α β:Type} {f:α→Nat} {g:β→Nat}: ∀ {l:List α} {m:List β},l.length=m.length→(∀ (i:Nat) x y,l[i]? =some x→m[i]? =some y→f x≤g y)→(l.map f).sum≤(m.map g).sum
 | [],[],_,_=>Nat.le_refl _
 | [],_::_,h,_=>by simp at h
 | _::_,[],h,_=>by simp at h
 | x::l,y::m,h,hR=>by
  have h1:=hR 0 x y rfl rfl
  have h2:=sum_le2 (l:=l) (m:=m) (by simpa using h) fun i a b ha hb=>hR (i+1) a b (by simpa using ha) (by simpa using hb)
  simp only [List.map_cons,List.sum_cons]
  omega
def opB (P:Program):Ty→TypeId⊕(List Field×Nat)→Bool
 | .int k, .inl t=>match P.underlying t with | some (.int k')=>decide (k=k') | _=>false
 | .bool, .inl t=>match P.underlying t with | some .bool=>true | _=>false
 | .str, .inl t=>match P.underlying t with | some .string=>true | _=>false
 | .sl a, .inl t=>match P.underlying t with | some (.slice e)=>Nat.beq (P.cellsOf e) a.size && Nat.blt 0 a.size && Nat.beq (P.bytesOf e) a.byt && opB P a (.inl e) | _=>false
 | .st c, .inl t=>match P.underlying t with | some (.struct fs)=>Nat.beq (P.cellsOf t) c.size && opB P c (.inr (fs.toList,0)) | _=>false
 | .pr a b, .inr (f::fs,o)=>Nat.beq f.offset o && Nat.beq (P.cellsOf f.type) a.size && opB P a (.inl f.type) && opB P b (.inr (fs,o+a.size))
 | .unit, .inr ([],_)=>true
 | _,_=>false
section
variable {H:Type} (enc:TypeId×Value→H) (P:Program) (W:World)
def OpnT (t:TypeId) (a:Ty):Prop:=
 ∀ fuel cs d ps,DataW.trod enc P W 0 (fun _=>true) true fuel t cs=some (d,ps)→Light P t d→ ∃ x:a.den,Rp (phiOf W) a x cs []∧Wf a x∧Sz a x≤bulk d
def OpnF (size o:Nat) (fs:List Field) (a:Ty):Prop:=
 ∀ (n:Nat) (cs:List Value) (xs:List (DataW H×List MemPlace)),cs.length=size→xs.length=fs.length→
  (∀ (i:Nat) (f:Field),fs[i]? =some f→DataW.trod enc P W 0 (fun _=>true) true n f.type ((cs.drop f.offset).take (P.cellsOf f.type))=xs[i]?)→
  (∀ (i:Nat) (f:Field) y,fs[i]? =some f→xs[i]? =some y→Light P f.type y.1)→o+a.size=size→ ∃ x:a.den,Rp (phiOf W) a x (cs.drop o) []∧Wf a x∧Sz a x≤bulkAll (xs.map (·.1))
end
section
variable {H:Type} {enc:TypeId×Value→H} {P:Program} {W:World} {t e:TypeId}
theorem light_slice {es sp:List (DataW H)} (ht:P.underlying t=some (.slice e)) (hl:Light P t (.slice es sp)):es.length*P.bytesOf e≤140737488351232∧ ∀ d∈es,Light P e d:=by
 unfold Light at hl
 simp only [DataW.weights,ht] at hl
 have h7:reachBytes=140737488351232:=by decide
 constructor
 ·have h1:=hl _ (List.mem_cons_self ..)
  have h2:es.length*P.bytesOf e≤(es.length+sp.length)*P.bytesOf e:=Nat.mul_le_mul_right _ (by omega)
  omega
 ·intro d hd x hx
  refine hl x (List.mem_cons_of_mem _ (List.mem_append_left _ ?_))
  clear hl
  induction es with
  | nil=>cases hd
  | cons a r ih=>
   simp only [DataW.weightsAll]
   rcases List.mem_cons.1 hd with rfl | h
   ·exact List.mem_append_left _ hx
   ·exact List.mem_append_right _ (ih h)
theorem light_agg {fs:Array Field} {ds:List (DataW H)} (ht:P.underlying t=some (.struct fs)) (hl:Light P t (.agg ds)): ∀ (i:Nat) (f:Field) y,fs.toList[i]? =some f→ds[i]? =some y→Light P f.type y:=by
 unfold Light at hl
 simp only [DataW.weights,ht] at hl
 have key: ∀ (l:List Field) (ds:List (DataW H)),(∀ x∈DataW.weightsEach P (l.map (·.type)) ds,x≤reachBytes)→ ∀ (i:Nat) (f:Field) y,l[i]? =some f→ds[i]? =some y→Light P f.type y:=by
  intro l
  induction l with
  | nil=>intro ds _ i f y h;simp at h
  | cons g r ih=>
   intro ds hl i f y hf hy
   cases ds with
   | nil=>simp at hy
   | cons d q=>
    simp only [List.map_cons,DataW.weightsEach] at hl
    cases i with
    | zero=>
     simp at hf hy
     subst hf hy
     exact fun x hx=>hl x (List.mem_append_left _ hx)
    | succ i=>exact ih q (fun x hx=>hl x (List.mem_append_right _ hx)) i f y (by simpa using hf) (by simpa using hy)
 exact key fs.toList ds hl
theorem list_choose {α:Type} {p:Nat→α→Prop}: ∀ n,(∀ i,i<n→ ∃ x,p i x)→ ∃ l:List α,l.length=n∧ ∀ i x,l[i]? =some x→p i x
 | 0,_=>⟨[],rfl,fun i x h=>by simp at h⟩
 | n+1,h=>by
  obtain ⟨l,h1,h2⟩:=list_choose n (fun i hi=>h i (by omega))
  obtain ⟨x,hx⟩:=h n (by omega)
  refine ⟨l++[x],by simp [h1],fun i y hy=>?_⟩
  by_cases hi:i<n
  ·rw [List.getElem?_append_left (by omega)] at hy;exact h2 i y hy
  ·rw [List.getElem?_append_right (by omega)] at hy
   have h3:i=n:=by
    have:=(List.getElem?_eq_some_iff.1 hy).1
    simp at this;omega
   subst h3
   rw [h1,Nat.sub_self] at hy
   simp at hy
   subst hy;exact hx
theorem all2_of {α β:Type} {R:α→β→Prop}: ∀ {l:List α} {m:List β},l.length=m.length→(∀ (i:Nat) x y,l[i]? =some x→m[i]? =some y→R x y)→All2 R l m
 | [],[],_,_=> .nil
 | [],_::_,h,_=>by simp at h
 | _::_,[],h,_=>by simp at h
 | x::l,y::m,h,hR=> .cons (hR 0 x y rfl rfl) (all2_of (by simpa using h) fun i a b ha hb=>hR (i+1) a b (by simpa using ha) (by simpa using hb))
theorem flat_at {s:Nat} (hs:0<s): ∀ (l:List (List Value)),(∀ c∈l,c.length=s)→ ∀ (j:Nat) (v:Value),l.flatten[j]? =some v→ ∃ i k c,j=i*s+k∧l[i]? =some c∧c[k]? =some v
 | [],_,j,v,h=>by simp at h
 | d::r,hl,j,v,h=>by
  have h1:=hl d List.mem_cons_self
  rw [List.flatten_cons] at h
  by_cases hj:j<s
  ·rw [List.getElem?_append_left (by omega)] at h
   exact ⟨0,j,d,by omega,rfl,h⟩
  ·rw [List.getElem?_append_right (by omega),h1] at h
   obtain ⟨i,k,c,e1,e2,e3⟩:=flat_at hs r (fun c hc=>hl c (List.mem_cons_of_mem _ hc)) (j - s) v h
   exact ⟨i+1,k,c,by rw [Nat.succ_mul];omega,by simpa using e2,e3⟩
theorem opn_ok: ∀ (a:Ty),(∀ t,opB P a (.inl t)=true→OpnT enc P W t a)∧(∀ fs o size,opB P a (.inr (fs,o))=true→OpnF enc P W size o fs a)
 | .int k=>by
  refine ⟨fun t h=>?_,fun fs o size h=>by cases fs<;>simp [opB] at h⟩
  ·skip
   unfold opB at h
   split at h
   ·rename_i k' hu
    have h:=of_decide_eq_true h
    subst h
    intro fuel cs d ps ht _
    obtain ⟨n,h1,h2,h3⟩:=DataW.trod_int hu ht
    exact ⟨n,⟨h1,rfl⟩,by
     have h4:k.min≤n∧n≤k.max:=by simpa [Lit.wf] using h3
     exact ⟨h4,Nat.zero_le _⟩⟩
   ·cases h
 | .bool=>by
  refine ⟨fun t h=>?_,fun fs o size h=>by cases fs<;>simp [opB] at h⟩
  ·skip
   unfold opB at h
   split at h
   ·rename_i hu
    intro fuel cs d ps ht _
    cases fuel with
    | zero=>simp [DataW.trod] at ht
    | succ n=>
     unfold DataW.trod at ht
     rw [hu] at ht
     split at ht<;>simp_all [Rp,Wf,Sz]
   ·cases h
 | .str=>by
  refine ⟨fun t h=>?_,fun fs o size h=>by cases fs<;>simp [opB] at h⟩
  ·skip
   unfold opB at h
   split at h
   ·rename_i hu
    intro fuel cs d ps ht hl
    obtain ⟨s,h1,h2,h3⟩:=DataW.trod_string hu ht
    injection h2 with h4 h5
    subst h4
    refine ⟨s.data.toList,⟨by rw [h1],rfl⟩,?_⟩
    have h6:=hl s.data.toList.length (by simp [DataW.weights])
    have h7:reachBytes=140737488351232:=by decide
    refine ⟨?_,Nat.le_refl _⟩
    show s.data.toList.length≤_
    omega
   ·cases h
 | .unit=>⟨fun t h=>by simp [opB] at h,fun fs o size h=>by
   cases fs with
   | cons f r=>simp [opB] at h
   | nil=>
    intro n cs xs hs _ _ _ hz
    have:o=cs.length:=by rw [hs];exact hz
    exact ⟨(),⟨List.drop_eq_nil_of_le (by omega),rfl⟩,trivial,Nat.zero_le _⟩⟩
 | .sl a=>by
  refine ⟨fun t h=>?_,fun fs o size h=>by cases fs<;>simp [opB] at h⟩
  ·skip
   unfold opB at h
   split at h
   case h_2=>cases h
   case h_1 e hu=>
   simp only [Bool.and_eq_true] at h
   obtain ⟨⟨⟨h1,h2⟩,h3⟩,h4⟩:=h
   have hn:=Nat.eq_of_beq_eq_true h1
   have h0:0<a.size:=by simpa [Nat.blt_eq] using h2
   have hb:=Nat.eq_of_beq_eq_true h3
   have he:=(opn_ok a).1 e h4
   intro fuel cs d ps hd hl
   rcases DataW.trod_slice hu hd with ⟨g1,g2⟩ | ⟨ad,len,cap,elems,rest,m,_,rfl,hx,_,hlc,_,hlen,hel,_,_⟩
   ·exact ⟨([]:List a.den),⟨none,0,[],g1,Nat.le_refl _, .nil,fun hn=>absurd hn (by simp),rfl⟩,by simp [Wf],Nat.zero_le _⟩
   ·injection hx with hx1 hx2
    subst hx1
    obtain ⟨hl1,hl2⟩:=light_slice hu hl
    rw [List.length_map,hlen,hb] at hl1
    have each: ∀ i,i<len→ ∃ q:a.den×List Value,Rp (phiOf W) a q.1 q.2 []∧Wf a q.1∧(∀ k u,q.2[k]? =some u→W.cell? (ad.add (i*a.size+k))=some u)∧ ∀ y,elems[i]? =some y→Sz a q.1≤bulk y.1:=by
     intro i hi
     obtain ⟨y,hy⟩: ∃ y,elems[i]? =some y:=⟨_,List.getElem?_eq_getElem (by omega)⟩
     have h3:=hel i hi
     rw [hy,hn,Option.bind_eq_some_iff] at h3
     obtain ⟨cs',h4,h5⟩:=h3
     obtain ⟨y1,y2⟩:=y
     obtain ⟨x,h6,h7,h7b⟩:=he m cs' y1 y2 h5 (hl2 y1 (List.mem_map.2 ⟨(y1,y2),List.mem_of_getElem? hy,rfl⟩))
     obtain ⟨_,h8,h9⟩:=World.cells?_some h4
     refine ⟨(x,cs'),h6,h7,fun k u hu=>?_,fun y' hy'=>(by rw [hy] at hy';injection hy' with hy';rw [← hy'];exact h7b)⟩
     have hk:k<a.size:=by rw [← h6.len];exact (List.getElem?_eq_some_iff.1 hu).1
     have:=h9 k hk
     rw [hu,add_add'] at this
     exact this
    obtain ⟨l,h10,h11⟩:=list_choose len each
    have hll:(l.map (·.1)).length=len:=by rw [List.length_map,h10]
    have hall:All2 (fun x cs=>Rp (phiOf W) a x cs []) (l.map (·.1)) (l.map (·.2)):=all2_of (by simp) fun i x y hx hy=>by
     rw [List.getElem?_map] at hx hy
     cases hq:l[i]? with
     | none=>rw [hq] at hx;cases hx
     | some q=>
      rw [hq] at hx hy
      simp only [Option.map_some,Option.some.injEq] at hx hy
      subst hx hy
      exact (h11 i q hq).1
    refine ⟨l.map (·.1),⟨some ad,cap,l.map (·.2),?_,?_,hall,fun _=>⟨ad,rfl,fun j v hv=>?_⟩,rfl⟩,⟨?_,fun x hx=>?_⟩,?_⟩
    ·show [Value.slice (some ad) len cap]=[Value.slice (some ad) (l.map (·.1)).length cap]
     rw [hll]
    ·show (l.map (·.1)).length≤cap
     omega
    ·obtain ⟨i,k,c,rfl,e2,e3⟩:=flat_at h0 (l.map (·.2)) (fun c hc=>by
      obtain ⟨q,hq,rfl⟩:=List.mem_map.1 hc
      obtain ⟨i,hi⟩:=List.getElem?_of_mem hq
      exact (h11 i q hi).1.len) j v hv
     rw [List.getElem?_map] at e2
     cases hq:l[i]? with
     | none=>rw [hq] at e2;cases e2
     | some q=>
      rw [hq] at e2
      simp only [Option.map_some,Option.some.injEq] at e2
      subst e2
      exact (h11 i q hq).2.2.1 k v e3
    ·show (l.map (·.1)).length*a.byt≤_
     rw [hll];exact hl1
    ·obtain ⟨q,hq,rfl⟩:=List.mem_map.1 hx
     obtain ⟨i,hi⟩:=List.getElem?_of_mem hq
     exact (h11 i q hi).2.1
    ·show ((l.map (·.1)).map (Sz a)).sum+(l.map (·.1)).length≤bulkAll (elems.map (·.1))+(elems.map (·.1)).length
     rw [bulkAll_map,hll,List.length_map,hlen]
     refine Nat.add_le_add_right (sum_le2 (by rw [hll,List.length_map,hlen]) fun i x y hx hy=>?_) _
     rw [List.getElem?_map] at hx hy
     cases hq:l[i]? with
     | none=>rw [hq] at hx;cases hx
     | some q=>
      cases he2:elems[i]? with
      | none=>rw [he2] at hy;cases hy
      | some z=>
       rw [hq] at hx
       rw [he2] at hy
       simp only [Option.map_some,Option.some.injEq] at hx hy
       subst hx hy
       exact (h11 i q hq).2.2.2 z he2
 | .st c=>by
  refine ⟨fun t h=>?_,fun fs o size h=>by cases fs<;>simp [opB] at h⟩
  ·skip
   unfold opB at h
   split at h
   case h_2=>cases h
   case h_1 fs hu=>
   simp only [Bool.and_eq_true] at h
   have hs:=Nat.eq_of_beq_eq_true h.1
   have hF:=(opn_ok c).2 fs.toList 0 c.size h.2
   intro fuel cs d ps hd hl
   obtain ⟨xs,n,_,hx,hcl,hxl,hf⟩:=DataW.trod_struct hu hd
   injection hx with hx1 hx2
   subst hx1
   have hla:=light_agg hu hl
   obtain ⟨x,h1,h2,h3⟩:=hF n cs xs (by rw [hcl,hs]) (by simpa using hxl) (fun i f hi=>hf i f (by simpa using hi)) (fun i f y hi hy=>hla i f y.1 hi (by simp [hy])) (by simp)
   have h1:Rp (phiOf W) c x cs []:=by simpa using h1
   exact ⟨x,h1,h2,h3⟩
 | .pr a b=>⟨fun t h=>by simp [opB] at h,fun fs o size h=>by
   cases fs with
   | nil=>simp [opB] at h
   | cons f fs=>
    unfold opB at h
    simp only [Bool.and_eq_true] at h
    obtain ⟨⟨⟨h1,h2⟩,h3⟩,h4⟩:=h
    have ho:=Nat.eq_of_beq_eq_true h1
    have hm:=Nat.eq_of_beq_eq_true h2
    have ha:=(opn_ok a).1 _ h3
    have hb:=(opn_ok b).2 fs (o+a.size) size h4
    intro n cs xs hs hxl hx hl hz
    cases xs with
    | nil=>simp at hxl
    | cons y ys=>
     have h3:=hx 0 f rfl
     rw [ho,hm] at h3
     obtain ⟨y1,y2⟩:=y
     obtain ⟨x,g1,g2,g2b⟩:=ha n _ y1 y2 h3 (hl 0 f (y1,y2) rfl rfl)
     obtain ⟨z,g3,g4,g4b⟩:=hb n cs ys hs (by simpa using hxl) (fun i g hg=>by simpa using hx (i+1) g (by simpa using hg)) (fun i g y hg hy=>hl (i+1) g y (by simpa using hg) (by simpa using hy)) (by rw [← hz];simp [Ty.size];omega)
     refine ⟨(x,z),⟨_,_,[],[],?_,rfl,g1,g3⟩,⟨g2,g4⟩,Nat.add_le_add g2b g4b⟩
     rw [← List.drop_drop,List.take_append_drop]⟩
 | .it=>⟨fun t h=>by simp [opB] at h,fun fs o size h=>by cases fs<;>simp [opB] at h⟩
 | .itd=>⟨fun t h=>by simp [opB] at h,fun fs o size h=>by cases fs<;>simp [opB] at h⟩
 | .dead _ _=>⟨fun t h=>by simp [opB] at h,fun fs o size h=>by cases fs<;>simp [opB] at h⟩
 | .rw _ _=>⟨fun t h=>by simp [opB] at h,fun fs o size h=>by cases fs<;>simp [opB] at h⟩
 | .mr _ _=>⟨fun t h=>by simp [opB] at h,fun fs o size h=>by cases fs<;>simp [opB] at h⟩
 | .ptr _=>⟨fun t h=>by simp [opB] at h,fun fs o size h=>by cases fs<;>simp [opB] at h⟩
 | .eb _ _=>⟨fun t h=>by simp [opB] at h,fun fs o size h=>by cases fs<;>simp [opB] at h⟩
 | .op _=>⟨fun t h=>by simp [opB] at h,fun fs o size h=>by cases fs<;>simp [opB] at h⟩
 | .bx _ _=>⟨fun t h=>by simp [opB] at h,fun fs o size h=>by cases fs<;>simp [opB] at h⟩
 | .bo _ _=>⟨fun t h=>by simp [opB] at h,fun fs o size h=>by cases fs<;>simp [opB] at h⟩
 | .bn=>⟨fun t h=>by simp [opB] at h,fun fs o size h=>by cases fs<;>simp [opB] at h⟩
 | .tr=>⟨fun t h=>by simp [opB] at h,fun fs o size h=>by cases fs<;>simp [opB] at h⟩
 | .ml _ _ _=>⟨fun t h=>by simp [opB] at h,fun fs o size h=>by cases fs<;>simp [opB] at h⟩
 | .on _=>⟨fun t h=>by simp [opB] at h,fun fs o size h=>by cases fs<;>simp [opB] at h⟩
 | .fl _=>⟨fun t h=>by simp [opB] at h,fun fs o size h=>by cases fs<;>simp [opB] at h⟩
theorem light_arg {ts:List TypeId} {ds:List (DataW H)} {j:Nat} {t:TypeId} {d:DataW H} (hz:(DataW.weightsEach P ts ds).all (· ≤reachBytes)=true) (ht:ts[j]? =some t) (hd:ds[j]? =some d):Light P t d:=by
 intro x hx
 have h1: ∀ y∈DataW.weightsEach P ts ds,y≤reachBytes:=fun y hy=>by simpa using List.all_eq_true.1 hz y hy
 clear hz
 induction ts generalizing ds j with
 | nil=>simp at ht
 | cons a r ih=>
  cases ds with
  | nil=>simp at hd
  | cons b q=>
   simp only [DataW.weightsEach] at h1
   cases j with
   | zero=>
    simp at ht hd
    subst ht hd
    exact h1 x (List.mem_append_left _ hx)
   | succ j=>exact ih (by simpa using ht) (by simpa using hd) (fun y hy=>h1 y (List.mem_append_right _ hy))
theorem open_argB {a:Ty} {v:Value} {d:DataW H} {ps:List MemPlace} {base:Nat} (ha:opB P a (.inl t)=true) (hv:Value.okWide P W .any base t v) (h:DataW.Trod enc P W 0 (fun _=>true) true t v d ps) (hl:Light P t d):
  ∃ (x:a.den) (cs:List Value),a.top=true∧v=sv a cs∧Rp (phiOf W) a x cs []∧Wf a x∧Sz a x≤bulk d:=by
 obtain ⟨fuel,hf⟩:=h
 obtain ⟨x,h1,h2,h2b⟩:=(opn_ok (enc:=enc) (W:=W) a).1 t ha fuel _ d ps hf hl
 refine ⟨x,v.cells.toList,?_,?_,h1,h2,h2b⟩
 ·cases a<;>first | rfl | (simp [opB] at ha;done)
 ·cases a<;>first | (simp [opB] at ha;done) | skip
  all_goals unfold opB at ha
  all_goals split at ha<;>first | (cases ha;done) | skip
  all_goals rename_i hu
  ·obtain ⟨n,rfl⟩:=okWide_int hu hv;rfl
  ·obtain ⟨n,rfl⟩:=okWide_bool hu hv;rfl
  ·obtain ⟨n,rfl⟩:=okWide_string hu hv;rfl
  ·obtain ⟨A,n,c,rfl⟩:=okWide_slice hu hv;rfl
  ·obtain ⟨cs,rfl,_⟩:=okWide_struct hu hv;rfl
theorem open_arg {a:Ty} {v:Value} {d:DataW H} {ps:List MemPlace} {base:Nat} (ha:opB P a (.inl t)=true) (hv:Value.okWide P W .any base t v) (h:DataW.Trod enc P W 0 (fun _=>true) true t v d ps) (hl:Light P t d):
  ∃ (x:a.den) (cs:List Value),a.top=true∧v=sv a cs∧Rp (phiOf W) a x cs []∧Wf a x:=
 let ⟨x,cs,h1,h2,h3,h4,_⟩:=open_argB ha hv h hl
 ⟨x,cs,h1,h2,h3,h4⟩
end
end Go.Lf
