/-
  'append'.
-/
import Derived.Test.YthfjjohdpoekjaaGreatDoorQAB
import Derived.Test.YthfjjohdpoekjaaGreatDoorQAA
namespace Go.Lf
open Go Go.iM
section
variable {P:Program} {N:Nat} {C:Cx} {G:World→Prop} {c:Ctx} {S:St} {Rt:Type} {k:St→Option Rt} {r:Rt} {a:Act} {w:World}
variable {W:d_} {e:Env} {eh oh:List Chunk} {dst:Option Tmp} {ty:TypeId} {pos:String} {af:Array Edge} {gd:Option (Nat×Bool)}
theorem zo {φ:bL} {t:Ty} {l:List t.den} {css:List (List Value)} (h:bz (fun x cs=>Rp φ t x cs []) l css):(∀ cx∈css,cx.length=t.size)∧ ∀ u∈css.flatten,u.oneCell'=true:=by
 have key: ∀ cx∈css, ∃ x,Rp φ t x cx []:=fun cx hcx=>by
  obtain ⟨ix,hix⟩:=List.getElem?_of_mem hcx
  have hlt:=(List.getElem?_eq_some_iff.1 hix).1
  rw [← h.length] at hlt
  obtain ⟨b',hb1,hb3⟩:=h.get (List.getElem?_eq_getElem hlt)
  rw [hix] at hb1
  injection hb1 with hb1
  subst hb1
  exact ⟨_,hb3⟩
 refine ⟨fun cx hcx=>(key cx hcx).elim fun x hx=>hx.len,fun u hu=>?_⟩
 obtain ⟨cx,hcx,hu2⟩:=List.mem_flatten.1 hu
 exact (key cx hcx).elim fun x hx=>hx.one u hu2
theorem src_ok (hc:aO P G c) {t2:Nat} {t:Ty} {y:Operand} {m:List t.den} (hs:aZ S W e eh oh) (h:J6 c t2 S t y=some m):
  ∃ v css,EV e y v∧bz (fun x cs=>Rp W.φ t x cs []) m css∧ ∀ w,Hb C w (eh++oh) (Inv G W.φ)→Src P t.size t2 v m.length css.flatten w:=by
 have slice: ∀ (A:Option Addr) (cc:Nat) (css:List (List Value)),iy c t2 (.sl t)=true→bz (fun x cs=>Rp W.φ t x cs []) m css→(0<m.length→A.isSome=true)→ ∀ w,(∀ ad,A=some ad→ ∀ j u,css.flatten[j]? =some u→w.cell? (ad.add j)=some u)→Src P t.size t2 (.slice A m.length cc) m.length css.flatten w:=by
  intro A cc css hb h1 h2 w h3
  obtain ⟨i,hi,ho⟩:=iU hc.ty hb
  have hu:=(dM (ho.sl t hi).1).1
  obtain ⟨l1,l2⟩:=zo h1
  have hfl:css.flatten.length=m.length*t.size:=by rw [fI css l1,h1.length]
  cases A with
  | none=>
   have hm:m.length=0:=Nat.eq_zero_of_not_pos fun h=>absurd (h2 h) (by simp)
   have hcs:css=[]:=List.eq_nil_of_length_eq_zero (by rw [← h1.length];exact hm)
   subst hcs
   rw [hm]
   exact Src.ofNil w hu cc
  | some ad=>exact Src.ofSlice w hu ad m.length cc css.flatten hfl (h3 ad rfl) l2
 unfold J6 at h
 generalize hy:S.get y=dy at h
 split at h
 ·rename_i l
  cases hb:iy c t2 .str with
  | false=>rw [hb] at h;cases h
  | true=>
   rw [hb] at h
   simp only [cond_true] at h
   obtain ⟨i,hi,ho⟩:=iU hc.ty hb
   cases t<;>first | cases h | skip
   rename_i kk
   cases kk<;>first | cases h | skip
   refine ⟨_,List.map (fun n:Int=>[Value.int .u8 n]) (Ak l),l5 hs.env hy,?_,fun w _=>?_⟩
   ·clear hy hb slice
    induction l with
    | nil=>exact .nil
    | cons x q ih=>exact .cons ⟨rfl,rfl⟩ ih
   ·have h9:=Src.ofString w (jP (ho.str hi)) ⟨l.toArray⟩
    rw [Li]
    have e1:byteCells ⟨l.toArray⟩=List.map (Value.int .u8) (Ak l):=by simp [byteCells,Ak]
    have e2:(ByteArray.mk l.toArray).size=List.length (Ak l):=by rw [nN];simp [Ak]
    rw [e1,e2] at h9
    exact h9
 ·rename_i j p off
  split at h
  case h_2=>cases h
  case h_1 el t' m' hat=>
  split at h
  case isFalse=>cases h
  case isTrue he=>
  subst he
  cases hb:iy c t2 (.sl t') with
  | false=>rw [hb] at h;cases h
  | true=>
   rw [hb] at h
   have hm:m'=m:=by simpa using h
   subst hm
   obtain ⟨v,g1,g2⟩:=sN hs.env hy
   obtain ⟨ob,pre,mid,post,x1,x2,x3,rr,q1,q2,q3,q4,q5⟩:=lV hs.l9 hat
   obtain ⟨A,cc,css,m1,m2,m3,m4,m5⟩:=q4
   have m1:mid=[.slice A (List.length m') cc]:=m1
   subst m1
   have hv:v= .slice A (List.length m') cc:=by
    rw [q2, ← q3] at g2
    simpa using g2.symm
   subst hv
   refine ⟨_,css,g1,m3,fun w hbw=>slice A cc css hb m3 m4 w fun ad hA j u hu=>?_⟩
   have hrow:Chunk.row false (.slice A (List.length m') cc) el t'.size (List.length m') css.flatten∈eh++oh:=by
    refine List.mem_append_right _ (q5.mem_iff.2 ?_)
    have m5':x2=[.row false (.slice A (List.length m') cc) el t'.size (List.length m') css.flatten]:=m5
    simp [m5']
   have hown:w.ownsRow 0 el t'.size (.slice A (List.length m') cc) (List.length m') css.flatten:=hbw.hp.hold _ hrow
   obtain ⟨ad',h8,h9⟩:=(Rd.Al hown).cell hu
   rw [hA] at h8
   injection h8 with h8
   rw [h8]
   exact h9
 ·cases hb:iy c t2 (.sl t) with
  | false=>rw [hb] at h;cases h
  | true=>
   rw [hb] at h
   simp only [cond_true] at h
   rw [← hy] at h
   obtain ⟨i,hi,ho⟩:=iU hc.ty hb
   obtain ⟨cs,g1,⟨A,cc,css,rfl,g3,g4,g5,_⟩⟩:=jo hs.env h (t:= .sl t) rfl
   refine ⟨_,css,g1,g4,fun w hbw=>slice A cc css hb g4 (fun hp=>by obtain ⟨ad,rfl,_⟩:=g5 hp;rfl) w fun ad hA j u hu=>?_⟩
   rcases Nat.eq_zero_or_pos (List.length m) with h0 | h0
   ·have hcs:css=[]:=List.eq_nil_of_length_eq_zero (by rw [← g4.length];exact h0)
    subst hcs
    simp at hu
   ·obtain ⟨ad',hA',h9⟩:=g5 h0
    rw [hA] at hA'
    injection hA' with hA'
    subst hA'
    exact hbw.get.2 _ _ (h9 j u hu)
theorem Bp {t tx el bytes size:Nat} {p:Bool} {A:Option Addr} {cc n m:Nat} {xs news:List Value} {v:Value} {x y:Operand} {rest:List Chunk} {φ:bL} (ha:Ff P t el size bytes) (hby:0<bytes)
  (hb:Hb C w (.row p (.slice A n cc) el size n xs::rest) (Inv G φ)) (hsrc:Src P size tx v m news w) (hlim:(n+m)*bytes≤140737488355328) (hx:a.eval x= .slice A n cc) (hy:a.eval y=v) {args:Array Operand} {og:Array TypeId} (h1:args.toList=[x,y]) (h2:og.toList=[t,tx]):
  ∃ A' c' w',(execOp a.eval ⟨dst, .call ⟨.builtin .append,args,og⟩,ty,pos,af,gd⟩).run P w= .ok (.value (.slice A' (n+m) c')) w'∧Hb C w' (.row p (.slice A' (n+m) c') el size (n+m) (xs++news)::rest) (Inv G φ):=by
 have e1:args= #[x,y]:=by rw [← Array.toArray_toList (xs:=args),h1]
 have e2:og= #[t,tx]:=by rw [← Array.toArray_toList (xs:=og),h2]
 subst e1 e2
 have hown:w.ownsRow 0 el size (.slice A n cc) n xs:=hb.hp.hold _ List.mem_cons_self
 obtain ⟨A',c',w',q1,q2,q3,q4⟩:=C_ (P:=P) (ty:=ty) (p:=p) ha hown hsrc hlim hby
 refine ⟨A',c',w',?_,?_⟩
 ·simp [execOp,resolve,invoke,builtin,hx,hy,q1]
 ·refine hb.turn (c':= .row p (.slice A' (n+m) c') el size (n+m) (xs++news)) q3 q2 fun g hg=>?_
  rcases q4 g hg with h3 | h3
  ·refine .inl ⟨h3,?_⟩
   unfold Chunk.pre
   cases p
   ·exact Nat.le_refl _
   ·exact Nat.mul_le_mul_right _ (by omega)
  ·exact .inr h3
theorem Hu {t tx el bytes size:Nat} {A:Option Addr} {n m:Nat} {xs news:List Value} {v:Value} {x y:Operand} {rest:List Chunk} {φ:bL} (ha:Ff P t el size bytes) (hby:0<bytes)
  (hb:Hb C w rest (Inv G φ)) (hl:xs.length=n*size) (hr:nD φ A n xs) (hsrc:Src P size tx v m news w) (hm:0<m) (hlim:(n+m)*bytes≤140737488355328) (hx:a.eval x= .slice A n n) (hy:a.eval y=v) {args:Array Operand} {og:Array TypeId} (h1:args.toList=[x,y]) (h2:og.toList=[t,tx]):
  ∃ A' c' w',(execOp a.eval ⟨dst, .call ⟨.builtin .append,args,og⟩,ty,pos,af,gd⟩).run P w= .ok (.value (.slice A' (n+m) c')) w'∧Hb C w' (.row true (.slice A' (n+m) c') el size (n+m) (xs++news)::rest) (Inv G φ):=by
 have e1:args= #[x,y]:=by rw [← Array.toArray_toList (xs:=args),h1]
 have e2:og= #[t,tx]:=by rw [← Array.toArray_toList (xs:=og),h2]
 subst e1 e2
 obtain ⟨A',c',w',q1,q2,q3,q4⟩:=BI (P:=P) (w:=w) (ty:=ty) ha hl (fun h0=>by
  obtain ⟨ad,h3,h4⟩:=hr h0
  exact ⟨ad,h3,fun j u hu=>hb.get.2 _ _ (h4 j u hu)⟩) hsrc hm hlim hby
 refine ⟨A',c',w',?_,?_⟩
 ·simp [execOp,resolve,invoke,builtin,hx,hy,q1]
 ·have hb1:Hb C w (.row true (.slice none 0 0) el size 0 []::rest) (Inv G φ):=(Sub.app (Sub.mZ true el size) (Sub.refl rest)).hb (by simpa using hb)
  exact hb1.turn (c':= .row true (.slice A' (n+m) c') el size (n+m) (xs++news)) q3 q2 fun g hg=> .inr (q4 g hg)
theorem Re {α:Type} {b:Nat} {l m x:List α} (h:Uu b l m=some x):0<m.length∧(l.length+m.length)*b≤140737488355328∧x=l++m:=by
 unfold Uu at h
 cases m with
 | nil=>cases h
 | cons y r=>
  unfold app at h
  simp only at h
  split at h
  ·simp only [Option.some.injEq] at h;exact ⟨Nat.succ_pos _, ‹_›,h.symm⟩
  ·cases h
theorem PT {α:Type} {b:Nat} {l m x:List α} (h:app b l m=some x):(l.length+m.length)*b≤140737488355328∧x=l++m:=by
 unfold app at h
 split at h
 ·simp only [Option.some.injEq] at h;exact ⟨‹_›,h.symm⟩
 ·cases h
theorem KN (hc:aO P G c) (hn:c.n=N) {x y:Operand} {t t2:Nat} {args:Array Operand} {og:Array TypeId} (ha1:args.toList=[x,y]) (ha2:og.toList=[t,t2])
  (h:wW c ⟨dst, .call ⟨.builtin .append,args,og⟩,ty,pos,af,gd⟩ S x y t t2 k=some r): ∃ S',k S'=some r∧ ∀ a w,At N C G S a w→gD P N C G ⟨dst, .call ⟨.builtin .append,args,og⟩,ty,pos,af,gd⟩ S' a w:=by
 unfold wW at h
 split at h
 case h_2=>cases h
 case h_1 te el sz hi=>
 obtain ⟨hts,happ,_,_,hsz0,_⟩:=(hc.ty _ _ hi).sl te rfl
 have hpos:0<te.size:=by obtain ⟨_,_,_,_,_,_,_,_,h⟩:=happ;exact h
 split at h
 case h_1=>cases h
 case h_2 m hm=>
 have mrcase: ∀ {S1:St} {d:Nat} {l:List te.den} {l2:List te.den},dst=some d→app sz l m=some l2→BB c d el te l2 S1 k=some r→
   ∃ S',k S'=some r∧ ∀ (a:Act) (w:World) W e eh oh eh1 oh1 A cc css,aZ S W e eh oh→aZ S1 W e eh1 oh1→Fr a N e→Hb C w (eh++oh) (Inv G W.φ)→EV e x (.slice A (List.length l) cc)→bz (fun x cs=>Rp W.φ te x cs []) l css→
    Hb C w (.row false (.slice A (List.length l) cc) el te.size (List.length l) css.flatten::(eh1++oh1)) (Inv G W.φ)→gD P N C G ⟨dst, .call ⟨.builtin .append,args,og⟩,ty,pos,af,gd⟩ S' a w:=by
  intro S1 d l l2 hd happl h
  subst hd
  obtain ⟨q1,q2⟩:=PT happl
  subst q2
  obtain ⟨S',h1,h2⟩:=uw (C:=C) (G:=G) hn h
  refine ⟨S',h1,fun a w W e eh oh eh1 oh1 A cc css hs hs1 hf hb hx hcss hrow=>?_⟩
  obtain ⟨v,cssm,g1,g2,g3⟩:=src_ok (P:=P) (C:=C) (G:=G) hc hs hm
  obtain ⟨A',c',w',r1,r2⟩:=Bp (dst:=some d) (ty:=ty) (pos:=pos) (af:=af) (gd:=gd) (x:=x) (y:=y) happ hsz0 hrow (g3 w hb) q1 (hf.ev hx) (hf.ev g1) ha1 ha2
  have hall:=hcss.append g2
  have hln:(l++m).length=List.length l+List.length m:=List.length_append
  refine .value r1 ?_
  have hown:w'.ownsRow 0 el te.size (.slice A' (List.length l+List.length m) c') (List.length l+List.length m) (css.flatten++cssm.flatten):=r2.hp.hold _ List.mem_cons_self
  have hle:List.length l+List.length m≤c'∧(0<List.length l+List.length m→A'.isSome=true):=by
   rcases hown.2 with ⟨hv,hz⟩ | ⟨g,cap,cur,hv,_,_,hnc,_⟩
   ·exact ⟨by omega,fun h=>by omega⟩
   ·injection hv with e1 e2 e3;subst e1 e3;exact ⟨hnc,fun _=>rfl⟩
  have:=h2 W e eh1 oh1 A' c' (css++cssm) a w' hs1 (by rw [hln];exact hle.1) hall (by rw [hln];exact hle.2) hf (by rw [hln,List.flatten_append];exact r2)
  rw [hln] at this
  exact this
 have rwcase: ∀ {S1:St} {l:List te.den} {l2:List te.den},app sz l m=some l2→out c ⟨dst, .call ⟨.builtin .append,args,og⟩,ty,pos,af,gd⟩ S1 (.v (.rw el te) l2) k=some r→
   ∃ S',k S'=some r∧ ∀ (a:Act) (w:World) W e eh oh eh1 oh1 A cc css,aZ S W e eh oh→aZ S1 W e eh1 oh1→Fr a N e→Hb C w (eh++oh) (Inv G W.φ)→EV e x (.slice A (List.length l) cc)→bz (fun x cs=>Rp W.φ te x cs []) l css→
    Hb C w (.row true (.slice A (List.length l) cc) el te.size (List.length l) css.flatten::(eh1++oh1)) (Inv G W.φ)→gD P N C G ⟨dst, .call ⟨.builtin .append,args,og⟩,ty,pos,af,gd⟩ S' a w:=by
  intro S1 l l2 happl h
  obtain ⟨q1,q2⟩:=PT happl
  subst q2
  obtain ⟨S',h1,h2⟩:=dz (C:=C) (G:=G) hn h
  refine ⟨S',h1,fun a w W e eh oh eh1 oh1 A cc css hs hs1 hf hb hx hcss hrow=>?_⟩
  obtain ⟨v,cssm,g1,g2,g3⟩:=src_ok (P:=P) (C:=C) (G:=G) hc hs hm
  obtain ⟨A',c',w',r1,r2⟩:=Bp (dst:=dst) (ty:=ty) (pos:=pos) (af:=af) (gd:=gd) (x:=x) (y:=y) happ hsz0 hrow (g3 w hb) q1 (hf.ev hx) (hf.ev g1) ha1 ha2
  have hall:=hcss.append g2
  have hln:(l++m).length=List.length l+List.length m:=List.length_append
  have hown:w'.ownsRow 0 el te.size (.slice A' (List.length l+List.length m) c') (List.length l+List.length m) (css.flatten++cssm.flatten):=r2.hp.hold _ List.mem_cons_self
  have hle:List.length l+List.length m≤c':=by
   rcases hown.2 with ⟨hv,hz⟩ | ⟨g,cap,cur,hv,_,_,hnc,_⟩
   ·omega
   ·injection hv with e1 e2 e3;subst e1 e3;exact hnc
  obtain ⟨φ',f1,f2,f3⟩:=Aa hpos r2
  refine .value r1 ?_
  have hs2:=hs1.mono f1
  refine h2 ⟨φ',W.aA,W.hd⟩ e eh1 oh1 _ [.row true (.slice A' (List.length l+List.length m) c') el te.size (List.length l+List.length m) (css.flatten++cssm.flatten)] a w' hs2 ⟨[.slice A' (List.length l+List.length m) c'],rfl,rfl,A',c',css++cssm,by rw [hln],by rw [hln];exact hle,hall.imp fun _ _ h=>h.mono f1,by rw [hln,List.flatten_append];exact f2,by rw [hln,List.flatten_append]⟩ hf f3
 split at h
 ·rename_i el' t' l hx
  split at h
  case isFalse=>cases h
  case isTrue he=>
  subst he
  cases hb:Nat.beq el' el with
  | false=>rw [hb] at h;cases h
  | true=>
   rw [hb] at h
   simp only [cond_true] at h
   have hel:=Nat.eq_of_beq_eq_true hb
   subst hel
   obtain ⟨l2,hl2,h⟩:=Option.bind_eq_some_iff.1 h
   obtain ⟨S',h1,h2⟩:=rwcase hl2 h
   refine ⟨S',h1,fun a w ⟨W,e,eh,oh,hs,hf,hbw⟩=>?_⟩
   obtain ⟨v,hh,eh',q1,⟨cs,g1,rfl,A,cc,css,rfl,g3,g4,g5,rfl⟩,q3,q4⟩:=dn hs hx (by intro e;cases e)
   exact h2 a w W e eh oh eh' oh A cc css hs q3 hf hbw q1 g4 (((Sub.app q4 (Sub.refl oh)).trans (by rw [List.append_assoc];exact Sub.refl _)).hb hbw)
 ·rename_i t' l hx
  split at h
  case isFalse=>cases h
  case isTrue he=>
  subst he
  obtain ⟨l2,hl2,h⟩:=Option.bind_eq_some_iff.1 h
  obtain ⟨q0,q1,q2⟩:=Re hl2
  subst q2
  obtain ⟨S',h1,h2⟩:=dz (C:=C) (G:=G) hn h
  refine ⟨S',h1,fun a w ⟨W,e,eh,oh,hs,hf,hb⟩=>?_⟩
  obtain ⟨vx,hh,rr,q3,⟨cs,g1,rfl,A,css,rfl,g4,g5,rfl⟩,_⟩:=fZ hs.env (x:=x) (by rw [hx];intro e;cases e) |>fun ⟨v,hh,rr,q1,q2,q3⟩=>(⟨v,hh,rr,q1,(by rw [hx] at q2;exact q2),q3⟩: ∃ v h r,EV e x v∧DR W (.v (.fl t') l) v h∧eh.Perm (h++r))
  obtain ⟨v,cssm,m1,m2,m3⟩:=src_ok (P:=P) (C:=C) (G:=G) hc hs hm
  have hlx:css.flatten.length=List.length l*t'.size:=by
   rw [g4.length]
   exact fI _ fun c hcm=>by
    obtain ⟨i,hi⟩:=List.getElem?_of_mem hcm
    have hlt:=(List.getElem?_eq_some_iff.1 hi).1
    rw [← g4.length] at hlt
    obtain ⟨y,hy1,hy2⟩:=g4.get (List.getElem?_eq_getElem hlt)
    rw [hi] at hy1
    cases hy1
    exact Rp.len hy2
  obtain ⟨A',c',w',r1,r2⟩:=Hu (dst:=dst) (ty:=ty) (pos:=pos) (af:=af) (gd:=gd) (x:=x) (y:=y) (rest:=eh++oh) happ hsz0 hb hlx g5 (m3 w hb) q0 q1 (hf.ev q3) (hf.ev m1) ha1 ha2
  have hall:=g4.append m2
  have hln:(l++m).length=List.length l+List.length m:=List.length_append
  have hown:w'.ownsRow 0 el t'.size (.slice A' (List.length l+List.length m) c') (List.length l+List.length m) (css.flatten++cssm.flatten):=r2.hp.hold _ List.mem_cons_self
  have hle:List.length l+List.length m≤c':=by
   rcases hown.2 with ⟨hv,hz⟩ | ⟨g,cap,cur,hv,_,_,hnc,_⟩
   ·omega
   ·injection hv with e1 e2 e3;subst e1 e3;exact hnc
  obtain ⟨φ',f1,f2,f3⟩:=Aa hpos r2
  refine .value r1 ?_
  have hs2:=hs.mono f1
  exact h2 ⟨φ',W.aA,W.hd⟩ e eh oh _ [.row true (.slice A' (List.length l+List.length m) c') el t'.size (List.length l+List.length m) (css.flatten++cssm.flatten)] a w' hs2 ⟨[.slice A' (List.length l+List.length m) c'],rfl,rfl,A',c',css++cssm,by rw [hln],by rw [hln];exact hle,hall.imp fun _ _ h=>h.mono f1,by rw [hln,List.flatten_append];exact f2,by rw [hln,List.flatten_append]⟩ hf f3
 ·rename_i hx
  split at h
  case h_2=>cases h
  case h_1 d hd=>
  have hxv: ∀ {W:d_} {e:Env} {eh oh:List Chunk},aZ S W e eh oh→EV e x (.slice none 0 0):=fun hs=>by
   obtain ⟨v,hh,rr,q1,q2,_⟩:=fZ hs.env (x:=x) (by rw [hx];intro e;cases e)
   rw [hx] at q2
   obtain ⟨rfl,_⟩:=q2
   exact q1
  split at h
  ·obtain ⟨l2,hl2,h⟩:=Option.bind_eq_some_iff.1 h
   obtain ⟨S',h1,h2⟩:=mrcase hd hl2 h
   exact ⟨S',h1,fun a w ⟨W,e,eh,oh,hs,hf,hbw⟩=>h2 a w W e eh oh eh oh none 0 [] hs hs hf hbw (hxv hs) .nil ((Sub.app (Sub.mZ false el te.size) (Sub.refl _)).hb (by simpa using hbw))⟩
  ·obtain ⟨l2,hl2,h⟩:=Option.bind_eq_some_iff.1 h
   obtain ⟨S',h1,h2⟩:=rwcase hl2 h
   exact ⟨S',h1,fun a w ⟨W,e,eh,oh,hs,hf,hbw⟩=>h2 a w W e eh oh eh oh none 0 [] hs hs hf hbw (hxv hs) .nil ((Sub.app (Sub.mZ true el te.size) (Sub.refl _)).hb (by simpa using hbw))⟩
 ·rename_i j p off hx
  split at h
  case h_2=>cases h
  case h_1 d el' t' l S1 hd hta=>
  split at h
  case isFalse=>cases h
  case isTrue he=>
  subst he
  cases hb:Nat.beq el' el with
  | false=>rw [hb] at h;cases h
  | true=>
   rw [hb] at h
   simp only [cond_true] at h
   have hel:=Nat.eq_of_beq_eq_true hb
   subst hel
   obtain ⟨l2,hl2,h⟩:=Option.bind_eq_some_iff.1 h
   obtain ⟨S',h1,h2⟩:=mrcase hd hl2 h
   refine ⟨S',h1,fun a w ⟨W,e,eh,oh,hs,hf,hbw⟩=>?_⟩
   obtain ⟨v,h0,oh1,b1,b2,b3,b4,_⟩:=rQ hta hs
   obtain ⟨A,cc,css,m1,m2,m3,m4,m5⟩:=b2
   have hv:v= .slice A (List.length l) cc:=by injection m1
   subst hv
   obtain ⟨v',hh,rr,r1,⟨r2,_⟩,_⟩:=fZ hs.env (x:=x) (by rw [hx];intro e;cases e) |>fun ⟨v,hh,rr,q1,q2,q3⟩=>(⟨v,hh,rr,q1,(by rw [hx] at q2;exact q2),q3⟩: ∃ v h r,EV e x v∧((W.hd j)[off]? =some v∧h=[])∧eh.Perm (h++r))
   have hvv:v'= .slice A (List.length l) cc:=Option.some.inj (r2.symm.trans b1)
   subst hvv
   have m5':h0=[.row false (.slice A (List.length l) cc) el' t'.size (List.length l) css.flatten]:=m5
   rw [m5'] at b4
   exact h2 a w W e eh oh eh oh1 A cc css hs b3 hf hbw r1 m3 (((Sub.app (Sub.refl eh) b4).trans (Sub.perm (List.perm_append_comm_assoc _ _ _))).hb hbw)
 ·cases h
end
end Go.Lf
/-
  Calls.
-/
namespace Go.Lf
open Go Go.iM
section
variable {P:Program} {N:Nat} {C:Cx} {G:World→Prop} {c:Ctx} {S:St} {Rt:Type} {k:St→Option Rt} {r:Rt} {a:Act} {w:World}
variable {W:d_} {e:Env} {eh oh:List Chunk} {dst:Option Tmp} {ty:TypeId} {pos:String} {af:Array Edge} {gd:Option (Nat×Bool)}
theorem nW {f:Nat→List Chunk} {j:Nat} {h:List Chunk}: ∀ {l:List Nat},j∉l→l.flatMap f=l.flatMap (upd f j h)
 | [],_=>rfl
 | i::r,hn=>by
  simp only [List.mem_cons,not_or] at hn
  rw [List.flatMap_cons,List.flatMap_cons,nW (l:=r) hn.2,show upd f j h i=f i by unfold upd;rw [if_neg fun e=>hn.1 e.symm]]
theorem nO.UI {l:List (Nat×Ob)} {hs:List Chunk} (h:nO W l hs) (nd:(l.map (·.1)).Nodup): ∃ f:Nat→List Chunk,(∀ p∈l,xn W p.1 p.2 (f p.1))∧hs=(l.map (·.1)).flatMap f:=by
 induction h with
 | nil=>exact ⟨fun _=>[],fun p hp=>(by cases hp),rfl⟩
 | @cons j ob h hs l h1 h2 ih=>
  simp only [List.map_cons,List.nodup_cons] at nd
  obtain ⟨f,q1,q2⟩:=ih nd.2
  refine ⟨upd f j h,fun p hp=>?_,?_⟩
  ·rcases List.mem_cons.1 hp with rfl | hp
   ·rw [aR];exact h1
   ·have:p.1≠j:=fun e=>nd.1 (e▸List.mem_map.2 ⟨p,hp,rfl⟩)
    unfold upd
    rw [if_neg this]
    exact q1 p hp
  ·simp only [List.map_cons,List.flatMap_cons,aR]
   rw [q2]
   congr 1
   exact nW nd.1
theorem nO.Ox {f:Nat→List Chunk}: ∀ {l:List (Nat×Ob)},(∀ p∈l,xn W p.1 p.2 (f p.1))→nO W l ((l.map (·.1)).flatMap f)
 | [],_=> .nil
 | p::r,h=>by
  simp only [List.map_cons,List.flatMap_cons]
  exact .cons (h p List.mem_cons_self) (nO.Ox fun q hq=>h q (List.mem_cons_of_mem _ hq))
theorem rf {K js:List Nat} (hK:K.Nodup) (hj:js.Nodup) (hs: ∀ j∈js,j∈K):K.Perm (js++K.filter (fun i=>decide (i∉js))):=by
 refine (List.perm_ext_iff_of_nodup hK ?_).2 fun i=>?_
 ·refine List.nodup_append.2 ⟨hj,hK.filter _,fun i hi j hj' e=>?_⟩
  have:=(List.mem_filter.1 hj').2
  simp only [decide_eq_true_eq] at this
  exact this (e▸hi)
 ·simp only [List.mem_append,List.mem_filter,decide_eq_true_eq]
  constructor
  ·intro h
   by_cases h2:i∈js
   ·exact .inl h2
   ·exact .inr ⟨h,h2⟩
  ·rintro (h | h)
   ·exact hs i h
   ·exact h.1
theorem GQ {K js:List Nat} {j:Nat} (hK:K.Nodup) (hj:j∈K) (hn:j∉js):(K.filter fun i=>decide (i∉js)).Perm (j::K.filter fun i=>decide (i∉j::js)):=by
 refine (List.perm_ext_iff_of_nodup (hK.filter _) ?_).2 fun i=>?_
 ·refine List.nodup_cons.2 ⟨fun h=>?_,hK.filter _⟩
  have:=(List.mem_filter.1 h).2
  simp at this
 ·simp only [List.mem_cons,List.mem_filter,decide_eq_true_eq,not_or]
  constructor
  ·rintro ⟨h1,h2⟩
   by_cases h3:i=j
   ·exact .inl h3
   ·exact .inr ⟨h1,h3,h2⟩
  ·rintro (rfl | ⟨h1,_,h3⟩)
   ·exact ⟨hj,hn⟩
   ·exact ⟨h1,h3⟩
theorem JU {α:Type} {l:List (Nat×α)} (h:(l.map (·.1)).Nodup) {k:Nat} {v v':α} (h1:(k,v)∈l) (h2:(k,v')∈l):(k,v)=(k,v'):=by
 induction l with
 | nil=>cases h1
 | cons p r ih=>
  simp only [List.map_cons,List.nodup_cons] at h
  rcases List.mem_cons.1 h1 with e1 | h1<;>rcases List.mem_cons.1 h2 with e2 | h2
  ·rw [e1,e2]
  ·exact absurd (List.mem_map.2 ⟨_,h2,by rw [← e1]⟩) h.1
  ·exact absurd (List.mem_map.2 ⟨_,h1,by rw [← e2]⟩) h.1
  ·exact ih h.2 h1 h2
theorem qy {α:Type} (l:List (Nat×α)) (k:Nat) (v:α):look (aQ l k v) k=some v:=by
 induction l with
 | nil=>rw [aQ,au,if_pos rfl]
 | cons p r ih=>
  rw [show p=(p.1,p.2) from rfl,aJ]
  split
  ·rw [au,if_pos rfl]
  ·rename_i h;rw [au,if_neg h];exact ih
theorem yO {a:Ty}: ∀ {r:List Ty} (x:a.den) (y:ai r),uO r (iH r x y)=x
 | [],_,_=>rfl
 | _::_,_,_=>rfl
theorem rF {a:Ty}: ∀ {r:List Ty} (x:a.den) (y:ai r),iD r (iH r x y)=y
 | [],_,_=>rfl
 | _::_,_,_=>rfl
theorem bP.Y_ {φ:bL} {t:Ty} {r:List fq} {y:t.den} {z:ai (r.map fq.ty)} {cs:List Value} {h hs:List Chunk} {vs:List Value} {gs:List (Nat×Nat)} (ht:t.top=true) (h1:Rp φ t y cs h) (h2:bP φ r z vs gs hs):bP φ (.val t::r) (iH (a:=t) (r.map fq.ty) y z) (sv t cs::vs) gs (h++hs):=by
 cases r with
 | nil=>cases h2;exact bP.val (r:=[]) ht h1 .nil
 | cons p q=>exact bP.val (r:=p::q) (z:=(y,z)) ht h1 h2
theorem bP.Uz {φ:bL} {tid:Nat} {t t':Ty} {p0:List Dir} {m:Md} {r:List fq} {y:t.den} {z:ai (r.map fq.ty)} {cs:List Value} {h hs:List Chunk} {v:Value} {vs:List Value} {g:Nat} {gs:List (Nat×Nat)} (h1:Rp φ t y cs h) (hm:Gf φ m ⟨g,aH t p0,none⟩ v) (h2:bP φ r z vs gs hs):
  bP φ (.obj tid t t' p0 m::r) (iH (a:=t) (r.map fq.ty) y z) (v::vs) ((g,tid)::gs) (blk g tid cs::h++hs):=by
 cases r with
 | nil=>cases h2;exact bP.obj (r:=[]) h1 hm .nil
 | cons p q=>exact bP.obj (r:=p::q) (z:=(y,z)) h1 hm h2
theorem bP.YA {φ:bL} {g:Nat} {r:List fq} {z:ai (r.map fq.ty)} {hs:List Chunk} {vs:List Value} {gs:List (Nat×Nat)} (h2:bP φ r z vs gs hs):bP φ (.Bv g::r) (iH (a:= .unit) (r.map fq.ty) () z) (.func (.func g) #[] #[]::vs) gs hs:=by
 cases r with
 | nil=>cases h2;exact bP.Bv (r:=[]) .nil
 | cons p q=>exact bP.Bv (r:=p::q) (z:=((),z)) h2
inductive Ha (W:d_):List D→List Value→List Chunk→Prop
 | nil:Ha W [] [] []
 | cons {d:D} {v:Value} {h hs:List Chunk} {ds:List D} {vs:List Value}:DR W d v h→Ha W ds vs hs→Ha W (d::ds) (v::vs) (h++hs)
theorem DR.same {W':d_} {d:D} {v:Value} {h:List Chunk} (hd:DR W d v h) (hle:W.φ.le W'.φ) (hadr:W'.aA=W.aA) (hhd:W'.hd=W.hd):DR W' d v h:=hd.move hle hadr (fun _ _ _ _=>by rw [hhd]) (fun _ _ _ _ _ _ _ _=>by rw [hhd])
theorem IZ {j:Nat} {p:List Dir} {o:Nat} {y:Dn} {S':St} (h:S.open_ j p o=some (y,S')) (hs:aZ S W e eh oh) {hv:List Chunk} (hb:Hb C w (hv++(eh++oh)) (Inv G W.φ)):
  ∃ t l,y=⟨.sl t,l⟩∧ ∃ v φ' oh',(W.hd j)[o]? =some v∧W.φ.le φ'∧Rp φ' (.sl t) l [v] []∧aZ S' ⟨φ',W.aA,W.hd⟩ e eh oh'∧Hb C w (hv++(eh++oh')) (Inv G φ'):=by
 unfold St.open_ at h
 split at h<;>first | cases h | skip
 rename_i el t l S1 hta
 obtain ⟨v,h0,oh1,b1,b2,b3,b4,_⟩:=rQ hta hs
 obtain ⟨A,cc,css,m1,m2,m3,m4,m5⟩:=b2
 have hv':v= .slice A (List.length l) cc:=by injection m1
 subst hv'
 have hrow:Sub (hv++(eh++oh)) (h0++(hv++(eh++oh1))):=(Sub.app (Sub.refl hv) ((Sub.app (Sub.refl eh) b4).trans (Sub.perm (List.perm_append_comm_assoc _ _ _)))).trans (Sub.perm (List.perm_append_comm_assoc _ _ _))
 rw [m5] at hrow
 obtain ⟨φ',f1,f2,f3⟩:=tX (hrow.hb hb)
 have hsl:Rp φ' (.sl t) l [.slice A (List.length l) cc] []:=⟨A,cc,css,rfl,m2,m3.imp fun _ _ hx=>hx.mono f1,f2,rfl⟩
 have b5:=b3.mono f1
 split at h
 ·split at h
  case _ S2 hset=>
   simp only [Option.some.injEq,Prod.mk.injEq] at h
   obtain ⟨rfl,rfl⟩:=h
   obtain ⟨ob,pre,mid,post,h1,h2,h3,r,s,g1,g2,g3,g4,g5,g6,g7,g8⟩:=pW hset b5
   have hm1:mid.length=1:=by
    rw [g6.len, ← Ty.aF s.1, ← g3];rfl
   have hmid:mid=[.slice A (List.length l) cc]:=by
    have h9:W.hd j=pre++mid++post:=g4
    match mid,hm1,h9 with
    | [u],_,h9=>
     rw [h9, ← g5] at b1
     simp at b1
     rw [b1]
   subst hmid
   have h9:W.hd j=pre++[.slice A (List.length l) cc]++post:=g4
   obtain ⟨oh',k1,k2⟩:=g8 φ' [.slice A (List.length l) cc] [] φ'.le_refl hsl
   have e1:upd W.hd j (pre++[.slice A (List.length l) cc]++post)=W.hd:=by rw [← h9];exact upd_same _ _
   rw [e1] at k1
   refine ⟨t,l,rfl,_,φ',oh',b1,f1,hsl,k1,?_⟩
   have e2:pre++[.slice A (List.length l) cc]++post=W.hd j:=h9.symm
   rw [e2] at k2
   refine (Sub.app (Sub.refl hv) (Sub.app (Sub.refl eh) ((Sub.perm g7).trans ((?_:Sub _ (eO _ j ob.tid (W.hd j)++(h1++[]++h3)++r)).trans (Sub.perm k2.symm))))).hb f3
   refine Sub.app (Sub.app (Sub.refl _) (Sub.app (Sub.app (Sub.refl _) (Sub.nil _)) (Sub.refl _))) (Sub.refl _)
  case _=>cases h
 ·simp only [Option.some.injEq,Prod.mk.injEq] at h
  obtain ⟨rfl,rfl⟩:=h
  exact ⟨t,l,rfl,_,φ',oh1,b1,f1,hsl,b5,f3⟩
theorem Ul {take:Bool} {x:Operand} {d:D} {S1:St} (h:S.use take x=some (d,S1)) (hs:aZ S W e eh oh) {hv:List Chunk} (hb:Hb C w (hv++(eh++oh)) (Inv G W.φ)):
  ∃ v φ' hh eh' oh',EV e x v∧W.φ.le φ'∧DR ⟨φ',W.aA,W.hd⟩ d v hh∧aZ S1 ⟨φ',W.aA,W.hd⟩ e eh' oh'∧Hb C w (hv++hh++(eh'++oh')) (Inv G φ'):=by
 unfold St.use at h
 split at h
 ·rename_i j p o hx
  split at h
  case h_2=>cases h
  case h_1 y S2 hop=>
  simp only [Option.some.injEq,Prod.mk.injEq] at h
  obtain ⟨rfl,rfl⟩:=h
  obtain ⟨v,_,_,q1,⟨q2,_⟩,_,_⟩:=dn hs (x:=x) hx (by intro e;cases e)
  obtain ⟨t,l,rfl,v',φ',oh',g1,g2,g3,g4,g5⟩:=IZ hop hs hb
  rw [q2] at g1
  injection g1 with g1
  subst g1
  exact ⟨v,φ',[],eh,oh',q1,g2,⟨[v],rfl,rfl,g3⟩,g4,by simpa using g5⟩
 ·cases h
 ·rename_i hn1 hn2
  cases take with
  | true=>
   simp only [cond_true,Option.some.injEq,Prod.mk.injEq] at h
   obtain ⟨rfl,rfl⟩:=h
   obtain ⟨v,hh,eh',q1,q2,q3,q4⟩:=dn hs (x:=x) rfl (fun e=>hn2 e)
   refine ⟨v,W.φ,hh,eh',oh,q1,W.φ.le_refl,q2,q3,?_⟩
   refine (Sub.trans (Sub.app (Sub.refl hv) (Sub.app q4 (Sub.refl oh))) (by rw [List.append_assoc,List.append_assoc];exact Sub.refl _)).hb hb
  | false=>
   simp only [cond_false] at h
   split at h
   case h_1=>cases h
   case h_2 hne=>
   simp only [Option.some.injEq,Prod.mk.injEq] at h
   obtain ⟨rfl,rfl⟩:=h
   obtain ⟨v,q1,q2⟩:=get_nil hs.env (x:=x) rfl hne
   exact ⟨v,W.φ,[],eh,oh,q1,W.φ.le_refl,q2,hs,by simpa using hb⟩
theorem Ld {t:Ty} {x:Operand} {d:D} {S1:St} (h:S.QZ t x=some (d,S1)) (hs:aZ S W e eh oh) {hv:List Chunk} (hb:Hb C w (hv++(eh++oh)) (Inv G W.φ)):
  ∃ v φ' hh eh' oh',EV e x v∧W.φ.le φ'∧DR ⟨φ',W.aA,W.hd⟩ d v hh∧aZ S1 ⟨φ',W.aA,W.hd⟩ e eh' oh'∧Hb C w (hv++hh++(eh'++oh')) (Inv G φ'):=by
 unfold St.QZ at h
 split at h
 ·rename_i el a j p o hx
  split at h
  case h_2=>cases h
  case h_1 y S2 hta=>
  simp only [Option.some.injEq,Prod.mk.injEq] at h
  obtain ⟨rfl,rfl⟩:=h
  obtain ⟨v,_,_,q1,⟨q2,_⟩,_,_⟩:=dn hs (x:=x) hx (by intro e;cases e)
  obtain ⟨v',h0,oh',g1,g2,g3,g4,_,el',t',g6⟩:=rQ hta hs
  rw [q2] at g1
  injection g1 with g1
  subst g1
  obtain ⟨yt,yl⟩:=y
  simp only at g6 g2
  subst g6
  obtain ⟨A,cc,css,m1,m2⟩:=id g2
  have hv':v= .slice A (List.length yl) cc:=by injection m1
  refine ⟨v,W.φ,h0,eh,oh',q1,W.φ.le_refl,⟨[v],rfl,by rw [hv'];rfl,g2⟩,g3,?_⟩
  refine ((Sub.app (Sub.refl hv) ((Sub.app (Sub.refl eh) g4).trans (Sub.perm (List.perm_append_comm_assoc _ _ _)))).trans (by rw [List.append_assoc];exact Sub.refl _)).hb hb
 ·rename_i id a j hx
  split at h
  case h_2=>cases h
  case h_1 ob hob=>
  split at h
  case isFalse=>cases h
  case isTrue ht=>
  split at h
  case h_2=>cases h
  case h_1 y hy=>
  simp only [Option.some.injEq,Prod.mk.injEq] at h
  obtain ⟨rfl,rfl⟩:=h
  obtain ⟨v,_,_,q1,⟨q2,_⟩,_,_⟩:=dn hs (x:=x) hx (by intro e;cases e)
  subst q2
  obtain ⟨h0,r',⟨hc0,b1,b2⟩,b3,_,b5⟩:=hs.l9.set hs.nd hob
  rw [ht] at b2
  have b2:h0=blk (W.aA j) id (W.hd j)::hc0:=b2
  subst b2
  obtain ⟨h',r3,r4⟩:=eP hy b1
  obtain ⟨oh',k1,k2⟩:=b5 W.φ W.φ.le_refl
  refine ⟨_,W.φ,blk (W.aA j) id (W.hd j)::h',eh,oh',q1,W.φ.le_refl,⟨[_],rfl,rfl,W.aA j,W.hd j,h',rfl,r3,rfl⟩,⟨hs.env.Af j,k1,(mP j hs.nd).1⟩,?_⟩
  refine Sub.hb ?_ hb
  refine (Sub.app (Sub.refl hv) ((Sub.app (Sub.refl eh) ((Sub.perm b3).trans (Sub.app (Sub.cons r4) (Sub.perm k2.symm)))).trans (Sub.perm (List.perm_append_comm_assoc _ _ _)))).trans ?_
  rw [List.append_assoc]
  exact Sub.refl _
 ·rename_i id a j hx
  split at h
  case h_2=>cases h
  case h_1 ob hob=>
  split at h
  case isFalse=>cases h
  case isTrue ht=>
  split at h
  case h_2=>cases h
  case h_1 y hy=>
  simp only [Option.some.injEq,Prod.mk.injEq] at h
  obtain ⟨rfl,rfl⟩:=h
  obtain ⟨v,_,_,q1,⟨q2,_⟩,_,_⟩:=dn hs (x:=x) hx (by intro e;cases e)
  subst q2
  obtain ⟨h0,r',⟨hc0,b1,b2⟩,b3,_,b5⟩:=hs.l9.set hs.nd hob
  rw [ht] at b2
  have b2:h0=blk (W.aA j) id (W.hd j)::hc0:=b2
  subst b2
  obtain ⟨h',r3,r4⟩:=eP hy b1
  obtain ⟨oh',k1,k2⟩:=b5 W.φ W.φ.le_refl
  refine ⟨_,W.φ,blk (W.aA j) id (W.hd j)::h',eh,oh',q1,W.φ.le_refl,⟨[_],rfl,rfl,W.aA j,W.hd j,h',rfl,r3,rfl⟩,⟨hs.env.Af j,k1,(mP j hs.nd).1⟩,?_⟩
  refine Sub.hb ?_ hb
  refine (Sub.app (Sub.refl hv) ((Sub.app (Sub.refl eh) ((Sub.perm b3).trans (Sub.app (Sub.cons r4) (Sub.perm k2.symm)))).trans (Sub.perm (List.perm_append_comm_assoc _ _ _)))).trans ?_
  rw [List.append_assoc]
  exact Sub.refl _
 ·exact Ul h hs hb
theorem wF: ∀ (ps:List fq) (xs:List Operand) (S:St) (ds:List D) (S1:St) (W:d_) (eh oh hv:List Chunk),xL S ps xs=some (ds,S1)→aZ S W e eh oh→Hb C w (hv++(eh++oh)) (Inv G W.φ)→
  ∃ vs φ' hh eh' oh',OW e xs vs∧W.φ.le φ'∧Ha ⟨φ',W.aA,W.hd⟩ ds vs hh∧aZ S1 ⟨φ',W.aA,W.hd⟩ e eh' oh'∧Hb C w (hv++hh++(eh'++oh')) (Inv G φ')
 | [],[],S,ds,S1,W,eh,oh,hv,h,hs,hb=>by
  simp only [xL,Option.some.injEq,Prod.mk.injEq] at h
  obtain ⟨rfl,rfl⟩:=h
  exact ⟨[],W.φ,[],eh,oh, .nil,W.φ.le_refl, .nil,hs,by simpa using hb⟩
 | [],_::_,S,ds,S1,W,eh,oh,hv,h,hs,hb=>by cases h
 | .val _::_,[],S,ds,S1,W,eh,oh,hv,h,hs,hb=>by cases h
 | .obj _ _ _ _ _::_,[],S,ds,S1,W,eh,oh,hv,h,hs,hb=>by cases h
 | .Bv _::_,[],S,ds,S1,W,eh,oh,hv,h,hs,hb=>by cases h
 | .val t::ps,x::xs,S,ds,S1,W,eh,oh,hv,h,hs,hb=>by
  unfold xL at h
  split at h
  case h_2=>cases h
  case h_1 d S2 hu=>
  split at h
  case h_2=>cases h
  case h_1 ds' S3 hr=>
  simp only [Option.some.injEq,Prod.mk.injEq] at h
  obtain ⟨rfl,rfl⟩:=h
  obtain ⟨v,φ1,h1,eh1,oh1,q1,q2,q3,q4,q5⟩:=Ld hu hs hb
  obtain ⟨vs,φ2,h2,eh2,oh2,g1,g2,g3,g4,g5⟩:=wF ps xs _ _ _ _ _ _ _ hr q4 q5
  exact ⟨v::vs,φ2,h1++h2,eh2,oh2, .cons q1 g1,bL.le_trans q2 g2, .cons (q3.same g2 rfl rfl) g3,g4,by simpa [List.append_assoc] using g5⟩
 | .Bv _::ps,x::xs,S,ds,S1,W,eh,oh,hv,h,hs,hb=>by
  unfold xL at h
  split at h
  case h_2=>cases h
  case h_1 g hx=>
  split at h
  case h_2=>cases h
  case h_1 ds' S3 hr=>
  simp only [Option.some.injEq,Prod.mk.injEq] at h
  obtain ⟨rfl,rfl⟩:=h
  obtain ⟨v,_,_,q1,q2,_,_⟩:=dn hs (x:=x) hx (by intro e;cases e)
  obtain ⟨vs,φ2,h2,eh2,oh2,g1,g2,g3,g4,g5⟩:=wF ps xs _ _ _ _ _ _ hv hr hs hb
  exact ⟨v::vs,φ2,[]++h2,eh2,oh2, .cons q1 g1,g2, .cons ⟨q2.1,rfl⟩ g3,g4,by simpa using g5⟩
 | .obj _ _ _ _ m::ps,x::xs,S,ds,S1,W,eh,oh,hv,h,hs,hb=>by
  unfold xL at h
  split at h
  case h_2=>cases h
  case h_1 j p o hm=>
  have hx:=Md.Py hm
  split at h
  case h_2=>cases h
  case h_1 ds' S3 hr=>
  simp only [Option.some.injEq,Prod.mk.injEq] at h
  obtain ⟨rfl,rfl⟩:=h
  obtain ⟨v,_,_,q1,q2,_,_⟩:=dn hs (x:=x) hx (by cases m<;>(intro e;cases e))
  obtain ⟨vs,φ2,h2,eh2,oh2,g1,g2,g3,g4,g5⟩:=wF ps xs _ _ _ _ _ _ hv hr hs hb
  exact ⟨v::vs,φ2,[]++h2,eh2,oh2, .cons q1 g1,g2, .cons (Gf.dr.2 ⟨(Gf.dr.1 q2).1.mono g2,rfl⟩) g3,g4,by simpa using g5⟩
theorem Cg {t:Ty} {d:D} {y:t.den} {v:Value} {h:List Chunk} (ha:gy t d=some y) (hd:DR W d v h): ∃ cs h',v=sv t cs∧Rp W.φ t y cs h'∧Sub h h':=by
 unfold gy at ha
 split at ha
 ·obtain ⟨cs,h1,h2,h3⟩:=hd
  obtain ⟨h',h4,h5⟩:=eP ha h3
  exact ⟨cs,h',by rw [h2];exact qI ha cs,h4,h5⟩
 ·obtain ⟨h1,h2⟩:=hd
  subst h1 h2
  split at ha
  ·simp only [Option.some.injEq] at ha;subst ha
   exact ⟨[.slice none 0 0],[],rfl,⟨none,0,[],rfl,Nat.le_refl _, .nil,fun h=>absurd h (by simp),rfl⟩,Sub.refl _⟩
  ·rename_i el a
   simp only [Option.some.injEq] at ha;subst ha
   exact ⟨[.slice none 0 0],_,rfl,⟨none,0,[],rfl,Nat.le_refl _, .nil,fun h=>absurd h (by simp),rfl⟩,Sub.mZ _ _ _⟩
  ·rename_i el a
   simp only [Option.some.injEq] at ha;subst ha
   exact ⟨[.slice none 0 0],_,rfl,⟨none,0,[],rfl,Nat.le_refl _, .nil,fun h=>absurd h (by simp),rfl⟩,Sub.mZ _ _ _⟩
  ·cases ha
 ·obtain ⟨h1,h2⟩:=hd
  subst h1 h2
  split at ha
  ·simp only [Option.some.injEq] at ha;subst ha
   exact ⟨[.nilIface],[],rfl,⟨rfl,rfl⟩,Sub.refl _⟩
  ·simp only [Option.some.injEq] at ha;subst ha
   exact ⟨[.nilIface],[],rfl,⟨⟨_,rfl,rfl⟩,rfl⟩,Sub.refl _⟩
  ·cases ha
 ·obtain ⟨h1,h2⟩:=hd
  subst h1 h2
  split at ha
  ·simp only [Option.some.injEq] at ha;subst ha
   exact ⟨[.pointer none],[],rfl,⟨rfl,rfl⟩,Sub.refl _⟩
  ·simp only [Option.some.injEq] at ha;subst ha
   exact ⟨[.pointer none],[],rfl,⟨rfl,rfl⟩,Sub.refl _⟩
  ·cases ha
 ·obtain ⟨ad,cs,h1,h2,h3,h4⟩:=hd
  subst h1 h4
  split at ha
  ·split at ha
   ·rename_i e
    subst e
    simp only [Option.some.injEq] at ha;subst ha
    exact ⟨[.pointer (some ad)],[],rfl,⟨rfl,ad,cs,rfl,h2,h3⟩,Sub.refl _⟩
   ·cases ha
  ·split at ha
   ·rename_i e
    subst e
    simp only [Option.some.injEq] at ha;subst ha
    exact ⟨[.pointer (some ad)],[],rfl,⟨ad,cs,rfl,h2,h3,rfl⟩,Sub.refl _⟩
   ·cases ha
  ·cases ha
 ·cases ha
theorem mW {α:Type} {l:List (Nat×α)} {k:Nat} {v:α} (h:look l k=some v):(k,v)∈l:=by
 induction l with
 | nil=>cases h
 | cons p r ih=>
  rw [show p=(p.1,p.2) from rfl,au] at h
  split at h
  ·rename_i he
   simp only [Option.some.injEq] at h
   subst he h
   exact List.mem_cons_self
  ·exact List.mem_cons_of_mem _ (ih h)
theorem uu {n:Nat}: ∀ {l:List Nat},mem n l=false→n∉l
 | [],_=>by simp
 | k::r,h=>by
  unfold mem at h
  cases hb:Nat.beq k n with
  | true=>rw [hb] at h;cases h
  | false=>
   rw [hb] at h
   simp only [List.mem_cons,not_or]
   exact ⟨fun e=>(by rw [e,Nat.beq_refl] at hb;cases hb),uu h⟩
theorem zP {f:Nat→List Chunk} (hf: ∀ p∈S.az,xn W p.1 p.2 (f p.1)): ∀ (ps:List fq) (ds:List D) (z:ai (ps.map fq.ty)) (js:List (Nat×Nat)) (vs:List Value) (hh:List Chunk),vW S ps ds=some (z,js)→Ha W ds vs hh→(∀ t,fq.val t∈ps→t.top=true)→
  ∃ ah,bP W.φ ps z vs (js.map fun p=>(W.aA p.1,p.2)) ah∧(js.map (·.1)).Nodup∧(∀ j∈js.map (·.1),j∈S.az.map (·.1))∧Sub (hh++(js.map (·.1)).flatMap f) ah
 | [],[],z,js,vs,hh,h,hd,ht=>by
  simp only [vW,Option.some.injEq] at h
  obtain ⟨rfl,rfl⟩:=h
  cases hd
  exact ⟨[], .nil,by simp,by simp,Sub.refl _⟩
 | [],_::_,z,js,vs,hh,h,hd,ht=>by cases h
 | .val _::_,[],z,js,vs,hh,h,hd,ht=>by cases h
 | .obj _ _ _ _ _::_,[],z,js,vs,hh,h,hd,ht=>by cases h
 | .Bv _::_,[],z,js,vs,hh,h,hd,ht=>by cases h
 | .val t::ps,d::ds,z,js,vs,hh,h,hd,ht=>by
  unfold vW at h
  split at h
  case h_2=>cases h
  case h_1 y z' js' hy hr=>
  simp only [Option.some.injEq,Prod.mk.injEq] at h
  obtain ⟨rfl,rfl⟩:=h
  cases hd with
  | @cons d v h1 h2 ds vs hd1 hd2=>
  obtain ⟨cs,h1',q1,q2,q3⟩:=Cg hy hd1
  obtain ⟨ah,g1,g2,g3,g4⟩:=zP hf ps ds z' js' vs h2 hr hd2 fun t' ht'=>ht t' (List.mem_cons_of_mem _ ht')
  subst q1
  refine ⟨h1'++ah,bP.Y_ (ht t List.mem_cons_self) q2 g1,g2,g3,?_⟩
  rw [List.append_assoc]
  exact Sub.app q3 g4
 | .Bv g::ps,d::ds,z,js,vs,hh,h,hd,ht=>by
  unfold vW at h
  split at h
  case h_2=>cases h
  case h_1 g' z' js' hr=>
  cases hb:Nat.beq g g' with
  | false=>rw [hb] at h;cases h
  | true=>
  rw [hb] at h
  have hb:=Nat.eq_of_beq_eq_true hb
  subst hb
  simp only [cond_true,Option.some.injEq] at h
  obtain ⟨rfl,rfl⟩:=h
  cases hd with
  | @cons d v h1 h2 ds vs hd1 hd2=>
  obtain ⟨rfl,rfl⟩:=hd1
  obtain ⟨ah,g1,g2,g3,g4⟩:=zP hf ps ds _ _ vs h2 hr hd2 fun t' ht'=>ht t' (List.mem_cons_of_mem _ ht')
  exact ⟨ah,bP.YA g1,g2,g3,by simpa using g4⟩
 | .obj tid t t' p0 m::ps,d::ds,z,js,vs,hh,h,hd,ht=>by
  unfold vW at h
  split at h
  case h_2=>cases h
  case h_1 j _ o z' js' hmo hr=>
  have hmo:=Md.Py hmo
  subst hmo
  split at h
  case h_2=>cases h
  case h_1 ob hob=>
  split at h
  case isFalse=>cases h
  case isTrue htid=>
  split at h
  case h_2=>cases h
  case h_1 y hy=>
  cases hm:mem j (js'.map (·.1)) with
  | true=>rw [hm] at h;cases h
  | false=>
  rw [hm] at h
  cases ho:Nat.beq o (aH t p0) with
  | false=>rw [ho] at h;cases h
  | true=>
  rw [ho] at h
  have ho:=Nat.eq_of_beq_eq_true ho
  subst ho
  simp only [cond_false,cond_true,Option.some.injEq,Prod.mk.injEq] at h
  obtain ⟨rfl,rfl⟩:=h
  cases hd with
  | @cons d v h1 h2 ds vs hd1 hd2=>
  obtain ⟨hmv,rfl⟩:=Gf.dr.1 hd1
  obtain ⟨ah,g1,g2,g3,g4⟩:=zP hf ps ds z' js' vs h2 hr hd2 fun t' ht'=>ht t' (List.mem_cons_of_mem _ ht')
  obtain ⟨h0,q1,q2⟩:=hf _ (mW hob)
  rw [htid] at q2
  obtain ⟨h0',q3,q4⟩:=eP hy q1
  have q2:f j=blk (W.aA j) tid (W.hd j)::h0:=q2
  refine ⟨blk (W.aA j) tid (W.hd j)::h0'++ah,bP.Uz q3 hmv g1,?_,?_,?_⟩
  ·simp only [List.map_cons,List.nodup_cons]
   exact ⟨uu hm,g2⟩
  ·intro i hi
   rcases List.mem_cons.1 hi with rfl | hi
   ·exact jF hob
   ·exact g3 i hi
  ·simp only [List.map_cons,List.flatMap_cons,List.nil_append]
   rw [q2]
   refine (Sub.perm (List.perm_append_comm_assoc h2 (blk (W.aA j) tid (W.hd j)::h0) _)).trans ?_
   exact Sub.app (Sub.cons q4) g4
theorem ay.xP {φ':bL} {l:List (Nat×D)} {hs:List Chunk} (h:ay W l e hs) (hle:W.φ.le φ') {j:Nat} {cs:List Value}:ay ⟨φ',W.aA,upd W.hd j cs⟩ (Lf.xP j l) e hs:=by
 have key: ∀ (i o':Nat),Nat.beq j i=false→((upd W.hd j cs) i)[o']? =(W.hd i)[o']? :=fun i o' hn=>by
  have:i≠j:=fun e=>by rw [e,Nat.beq_refl] at hn;cases hn
  unfold upd
  rw [if_neg this]
 induction h with
 | nil=>exact .nil
 | @cons k d v h hs l e h1 h2 ih=>
  cases d with
  | bO i p o'=>
   unfold Lf.xP
   cases hb:Nat.beq j i with
   | true=>exact .cons (show DR _ .und v h from h1.2) ih
   | false=>exact .cons (h1.move hle rfl (fun _ _ _ he=>by cases he;exact key _ _ hb) (fun _ _ _ _ _ _ _ he=>by cases he)) ih
  | xZ i p o' m z q qo=>
   unfold Lf.xP
   cases hb:Nat.beq j i with
   | true=>
    obtain ⟨A,m,cc,_,_,h3⟩:=h1
    exact .cons (show DR _ .und v h from h3) ih
   | false=>exact .cons (h1.move hle rfl (fun _ _ _ he=>by cases he) (fun _ _ _ _ _ _ _ he=>by cases he;exact key _ _ hb)) ih
  | _=>exact .cons (h1.move hle rfl (fun _ _ _ he=>by cases he) (fun _ _ _ _ _ _ _ he=>by cases he)) ih
theorem Fe {α:Type} {l:List (Nat×α)} {k:Nat} {v:α}: ∀ p∈aQ l k v,p=(k,v)∨p∈l:=by
 induction l with
 | nil=>intro p hp;exact .inl (by simpa [aQ] using hp)
 | cons q r ih=>
  intro p hp
  rw [show q=(q.1,q.2) from rfl,aJ] at hp
  split at hp
  ·rcases List.mem_cons.1 hp with rfl | hp
   ·exact .inl rfl
   ·exact .inr (List.mem_cons_of_mem _ hp)
  ·rcases List.mem_cons.1 hp with rfl | hp
   ·exact .inr List.mem_cons_self
   ·exact (ih p hp).imp id (List.mem_cons_of_mem _)
theorem Jb: ∀ (js:List (Nat×Nat)) (L:List Dn) (S S2:St) (W:d_) (eh:List Chunk) (f:Nat→List Chunk) (h2:List Chunk),zH S js L=some S2→ay W S.env e eh→(S.az.map (·.1)).Nodup→(∀ j∈js.map (·.1),j∈S.az.map (·.1))→(js.map (·.1)).Nodup→
  (∀ p∈S.az,p.1∉js.map (·.1)→xn W p.1 p.2 (f p.1))→GY W.φ (js.map fun p=>(W.aA p.1,p.2)) L h2→
  ∃ W' oh',W'.φ=W.φ∧aZ S2 W' e eh oh'∧Sub (h2++((S.az.map (·.1)).filter fun i=>decide (i∉js.map (·.1))).flatMap f) oh'
 | [],[],S,S2,W,eh,f,h2,h,he,nd,hin,hj,hf,ho=>by
  simp only [zH,Option.some.injEq] at h
  subst h
  cases ho
  refine ⟨W,(S.az.map (·.1)).flatMap f,rfl,⟨he,nO.Ox fun p hp=>hf p hp (by simp),nd⟩,?_⟩
  rw [List.nil_append,List.filter_eq_self.2 (by intro a _;simp)]
  exact Sub.refl _
 | [],_::_,S,S2,W,eh,f,h2,h,he,nd,hin,hj,hf,ho=>by cases h
 | _::_,[],S,S2,W,eh,f,h2,h,he,nd,hin,hj,hf,ho=>by cases h
 | (j,tid)::js,y::ys,S,S2,W,eh,f,h2,h,he,nd,hin,hj,hf,ho=>by
  unfold zH at h
  simp only [List.map_cons,List.nodup_cons] at hj
  cases ho with
  | @cons g _ t x cs h0 hs gs L r1 r2=>
  have hkeys:(aQ S.az j ⟨some tid,t,x⟩).map (·.1)=S.az.map (·.1):=mK _ _ _ (hin j (by simp))
  have hadr:(js.map fun p=>((⟨W.φ,W.aA,upd W.hd j cs⟩:d_).aA p.1,p.2))=js.map fun p=>(W.aA p.1,p.2):=rfl
  obtain ⟨W',oh',q1,q2,q3⟩:=Jb js ys ⟨Lf.xP j S.env,aQ S.az j ⟨some tid,t,x⟩⟩ S2 ⟨W.φ,W.aA,upd W.hd j cs⟩ eh (upd f j (blk (W.aA j) tid cs::h0)) hs h (he.xP W.φ.le_refl) (by rw [hkeys];exact nd) (by
   intro i hi
   show i∈(aQ S.az j ⟨some tid,t,x⟩).map (·.1)
   rw [hkeys];exact hin i (by simp only [List.map_cons];exact List.mem_cons_of_mem _ hi)) hj.2 (by
   intro p hp hn
   by_cases hpj:p.1=j
   ·have hpe:p=(j,⟨some tid,t,x⟩):=by
     have hnd:((aQ S.az j ⟨some tid,t,x⟩).map (·.1)).Nodup:=by rw [hkeys];exact nd
     have h1:look (aQ S.az j ⟨some tid,t,x⟩) j=some ⟨some tid,t,x⟩:=qy _ _ _
     obtain ⟨i,ob⟩:=p
     have hpj:i=j:=hpj
     subst hpj
     exact JU hnd hp (mW h1)
    subst hpe
    refine ⟨h0,?_,?_⟩
    ·show Rp W.φ t x (upd W.hd j cs j) h0
     rw [aR];exact r1
    ·show upd f j (blk (W.aA j) tid cs::h0) j=blk (W.aA j) tid (upd W.hd j cs j)::h0
     rw [aR,aR]
   ·rcases Fe p hp with rfl | hp
    ·exact absurd rfl hpj
    ·obtain ⟨h00,p1,p2⟩:=hf p hp (by simp only [List.map_cons,List.mem_cons,not_or];exact ⟨hpj,hn⟩)
     have e1:upd W.hd j cs p.1=W.hd p.1:=by unfold upd;rw [if_neg hpj]
     have e2:upd f j (blk (W.aA j) tid cs::h0) p.1=f p.1:=by unfold upd;rw [if_neg hpj]
     refine ⟨h00,?_,?_⟩
     ·show Rp W.φ p.2.t p.2.x (upd W.hd j cs p.1) h00
      rw [e1];exact p1
     ·show upd f j (blk (W.aA j) tid cs::h0) p.1=match p.2.tid with | some tid=>blk (W.aA p.1) tid (upd W.hd j cs p.1)::h00 | none=>h00
      rw [e1,e2];exact p2) r2
  refine ⟨W',oh',q1,q2,Sub.trans ?_ q3⟩
  show Sub _ (hs++(((aQ S.az j ⟨some tid,t,x⟩).map (·.1)).filter fun i=>decide (i∉js.map (·.1))).flatMap (upd f j (blk (W.aA j) tid cs::h0)))
  rw [hkeys]
  have hp:=GQ nd (hin j (by simp)) hj.1
  have h5:=hp.flatMap_right (f:=upd f j (blk (W.aA j) tid cs::h0))
  refine Sub.trans (Sub.perm ?_) (Sub.app (Sub.refl hs) (Sub.perm h5.symm))
  rw [List.flatMap_cons,aR]
  rw [← nW (by simp)]
  refine List.Perm.trans ?_ (List.perm_append_comm_assoc _ _ _)
  simp only [List.append_assoc,List.map_cons]
  exact List.Perm.refl _
theorem Ha.app {ds ds':List D} {vs vs':List Value} {h h':List Chunk} (h1:Ha W ds vs h) (h2:Ha W ds' vs' h'):Ha W (ds++ds') (vs++vs') (h++h'):=by
 induction h1 with
 | nil=>exact h2
 | cons a _ ih=>rw [List.append_assoc];exact .cons a ih
theorem La {l:List (Bool×Nat×List Dir×Nat)} {vs:List Value} (h:bz (zk W) l vs):Ha W (l.map UC) vs []:=by
 induction h with
 | nil=>exact .nil
 | @cons p v l vs h1 _ ih=>
  obtain ⟨b,j,q,o⟩:=p
  cases b with
  | false=>exact Ha.cons (d:= .ref j q o) (h:=[]) ⟨h1,rfl⟩ ih
  | true=>exact Ha.cons (d:= .sJ j q o) (h:=[]) ⟨h1,rfl⟩ ih
theorem I_ (hn:c.n=N) {f:Nat} {en:Entry} {o:Oper} (he:aa P G f en) {z:ai (en.ps.map fq.ty)} {js:List (Nat×Nat)} {S1 S2:St}
  {q:ai (en.rs++outs en.ps)} (hq:en.f z=some q) (hbk:zH S1 js ((aI (en.rs++outs en.ps) q).drop en.rs.length)=some S2)
  (h:BR c o S2 ((aI (en.rs++outs en.ps) q).take en.rs.length) k=some r)
  (hrun: ∀ a w W e eh oh,aZ S W e eh oh→Fr a N e→Hb C w (eh++oh) (Inv G W.φ)→ ∃ ds vs φ1 hh eh1 oh1,vW S1 en.ps ds=some (z,js)∧W.φ.le φ1∧Ha ⟨φ1,W.aA,W.hd⟩ ds vs hh∧aZ S1 ⟨φ1,W.aA,W.hd⟩ e eh1 oh1∧Hb C w ([]++hh++(eh1++oh1)) (Inv G φ1)∧(execOp a.eval o).run P w= .ok (.enter f vs.toArray) w): ∃ S',k S'=some r∧ ∀ a w,At N C G S a w→gD P N C G o S' a w:=by
 obtain ⟨S',h1,h2⟩:=L8 (N:=N) (C:=C) (G:=G) hn h
 refine ⟨S',h1,fun a w ⟨W,e,eh,oh,hs,hfr,hb⟩=>?_⟩
 obtain ⟨ds,vs,φ1,hh,eh1,oh1,hpk,g2,g3,g4,g5,h0⟩:=hrun a w W e eh oh hs hfr hb
 obtain ⟨fm,f1,f2⟩:=g4.l9.UI g4.nd
 obtain ⟨ah,p1,p2,p3,p4⟩:=zP f1 _ _ _ _ _ _ hpk g3 he.top
 have hK:=rf g4.nd p2 p3
 have hK2:=hK.flatMap_right (f:=fm)
 rw [List.flatMap_append] at hK2
 have hsub:Sub ([]++hh++(eh1++oh1)) (ah++(eh1++(((S1.az.map (·.1)).filter fun i=>decide (i∉js.map (·.1))).flatMap fm))):=by
  rw [f2]
  refine Sub.trans (Sub.perm ?_) (Sub.app p4 (Sub.refl _))
  simp only [List.nil_append,List.append_assoc]
  refine List.Perm.append_left _ ?_
  refine List.Perm.trans (List.Perm.append_left _ hK2) ?_
  exact List.perm_append_comm_assoc _ _ _
 have hb2:=hsub.hb g5
 unfold gD
 rw [h0]
 refine (he.ok _ q hq (C.sub w ah (eh1++_)) φ1 vs _ ah p1 hb2.pass).mono fun y w' hy=>?_
 obtain ⟨v,φ',k1,k2,rfl,hle,hb3,hres,hobs⟩:=hy
 have hb4:=hb2.back hb3
 obtain ⟨W',oh',b1,b2,b3⟩:=Jb js _ S1 S2 ⟨φ',W.aA,W.hd⟩ eh1 fm k2 hbk (g4.env.mono hle rfl rfl) g4.nd p3 p2 (fun p hp _=>by
  obtain ⟨h0,t1,t2⟩:=f1 p hp
  exact ⟨h0,t1.mono hle,t2⟩) hobs
 have hb5:Hb C w' (k1++(eh1++oh')) (Inv G W'.φ):=by
  rw [b1]
  have:Sub ((k1++k2)++(eh1++(((S1.az.map (·.1)).filter fun i=>decide (i∉js.map (·.1))).flatMap fm))) (k1++(eh1++oh')):=by
   refine Sub.trans (Sub.perm ?_) (Sub.app (Sub.refl k1) (Sub.app (Sub.refl eh1) b3))
   simp only [List.append_assoc]
   exact List.Perm.append_left _ (List.perm_append_comm_assoc _ _ _)
  exact (this.hb hb4).imp fun _ h=>h.2
 exact ⟨v,rfl,h2 W' e eh1 oh' v k1 a w' b2 (DR.res (by rw [b1];exact hres)) hfr hb5⟩
theorem Qa (hn:c.n=N) {cl:Call} {f:Nat} {en:Entry} {x:Operand} {o:Oper} (hop:o.op= .call cl) (hcl:cl.callee= .value x) (hx:S.get x= .fn f) (he:aa P G f en) {z:ai (en.ps.map fq.ty)} {js:List (Nat×Nat)} {S1 S2:St}
  (hz:PE S en.ps cl.args.toList=some (z,js,S1)) {q:ai (en.rs++outs en.ps)} (hq:en.f z=some q) (hbk:zH S1 js ((aI (en.rs++outs en.ps) q).drop en.rs.length)=some S2)
  (h:BR c o S2 ((aI (en.rs++outs en.ps) q).take en.rs.length) k=some r): ∃ S',k S'=some r∧ ∀ a w,At N C G S a w→gD P N C G o S' a w:=by
 refine I_ (S:=S) hn he hq hbk h fun a w W e eh oh hs hfr hb=>?_
 unfold PE at hz
 split at hz
 case h_2=>cases hz
 case h_1 ds S1' hu=>
 split at hz
 case h_2=>cases hz
 case h_1 z' js' hpk=>
 simp only [Option.some.injEq,Prod.mk.injEq] at hz
 obtain ⟨rfl,rfl,rfl⟩:=hz
 obtain ⟨vs,φ1,hh,eh1,oh1,g1,g2,g3,g4,g5⟩:=wF _ _ _ _ _ _ _ _ [] hu hs (by simpa using hb)
 refine ⟨ds,vs,φ1,hh,eh1,oh1,hpk,g2,g3,g4,g5,?_⟩
 have:=zK (P:=P) (w:=w) (d:=o.dst) (ty:=o.type) (pos:=o.pos) (af:=o.after) (gd:=o.guard) (ats:=cl.argTypes) he.go (a:=a) (fo:=x) (hfr.ev (Gy hs.env hx)) (hfr.TV g1)
 rw [← this]
 congr 2
 cases o with
 | mk d op ty pos af gd=>
  simp only at hop
  subst hop
  cases cl with
  | mk callee args ats=>simp only at hcl;subst hcl;simp
theorem Pf (hn:c.n=N) {cl:Call} {x:Operand} {m:String} {o:Oper} {e0:Er} (hop:o.op= .call cl) (hcl:cl.callee= .invoke x m) (har:cl.args.toList=[]) (hx:S.get x= .v .tr e0) {v:Iv} (hm:v.m=m) (hv:JM P G v) {q:ai v.rs}
  (hq:v.f e0=some q) (h:BR c o S (aI v.rs q) k=some r): ∃ S',k S'=some r∧ ∀ a w,At N C G S a w→gD P N C G o S' a w:=by
 obtain ⟨S',h1,h2⟩:=L8 (N:=N) (C:=C) (G:=G) hn h
 refine ⟨S',h1,fun a w ⟨W,e,eh,oh,hs,hfr,hb⟩=>?_⟩
 obtain ⟨cs0,g1,⟨⟨u,rfl,hu⟩,_⟩,_⟩:=bD hs.env hx
 have hb2:Hb C w ([]++(eh++oh)) (Inv G W.φ):=by simpa using hb
 obtain ⟨f,rc,f1,f2⟩:=hv.ok e0 q hq (C.sub w [] (eh++oh)) W.φ u hu hb2.pass
 have h0:(execOp a.eval o).run P w= .ok (.enter f #[rc]) w:=by
  have f1:=f1 w
  have g1:a.eval x=u:=hfr.ev g1
  cases o with
  | mk d op ty pos af gd=>
   simp only at hop
   subst hop
   cases cl with
   | mk callee args ats=>
    simp only at hcl har
    subst hcl
    have har:args= #[]:=by rw [← Array.toArray_toList (xs:=args),har]
    subst har hm
    simp [execOp,resolve,invoke,g1,f1]
 unfold gD
 rw [h0]
 refine f2.mono fun y w' hy=>?_
 obtain ⟨vv,φ',k1,rfl,hle,hb3,hres⟩:=hy
 have hb4:=hb2.back hb3
 exact ⟨vv,rfl,h2 ⟨φ',W.aA,W.hd⟩ e eh oh vv k1 a w' (hs.mono hle) (DR.res hres) hfr (hb4.imp fun _ h=>h.2)⟩
theorem OT (hn:c.n=N) {cl:Call} {f n:Nat} {l:List (Bool×Nat×List Dir×Nat)} {en:Entry} {x:Operand} {o:Oper} (hop:o.op= .call cl) (hcl:cl.callee= .value x) (hx:S.get x= .zR f n l) (he:aa P G f en) {z:ai (en.ps.map fq.ty)} {js:List (Nat×Nat)} {S1 S2:St}
  (hz:P5 S en.ps n l cl.args.toList=some (z,js,S1)) {q:ai (en.rs++outs en.ps)} (hq:en.f z=some q) (hbk:zH S1 js ((aI (en.rs++outs en.ps) q).drop en.rs.length)=some S2)
  (h:BR c o S2 ((aI (en.rs++outs en.ps) q).take en.rs.length) k=some r): ∃ S',k S'=some r∧ ∀ a w,At N C G S a w→gD P N C G o S' a w:=by
 refine I_ (S:=S) hn he hq hbk h fun a w W e eh oh hs hfr hb=>?_
 unfold P5 at hz
 split at hz
 case h_2=>cases hz
 case h_1 ds S1' hu=>
 split at hz
 case h_2=>cases hz
 case h_1 z' js' hpk=>
 simp only [Option.some.injEq,Prod.mk.injEq] at hz
 obtain ⟨rfl,rfl,rfl⟩:=hz
 obtain ⟨v,_,q1,q2⟩:=bY hs.env hx (by intro e;cases e)
 obtain ⟨⟨us,q3,q4⟩,_⟩:=q2
 subst q4
 obtain ⟨vs,φ1,hh,eh1,oh1,g1,g2,g3,g4,g5⟩:=wF _ _ _ _ _ _ _ _ [] hu hs (by simpa using hb)
 have q5:bz (zk ⟨φ1,W.aA,W.hd⟩) l us:=zk.all q3 g2 fun _ _=>rfl
 refine ⟨_,us.take n++(vs++us.drop n),φ1,hh,eh1,oh1,hpk,g2,?_,g4,g5,?_⟩
 ·have:=(La (q5.take n)).app (g3.app (La (q5.drop n)))
  simpa using this
 have:=M8 (P:=P) (w:=w) (d:=o.dst) (ty:=o.type) (pos:=o.pos) (af:=o.after) (gd:=o.guard) (ats:=cl.argTypes) he.go (a:=a) (fo:=x) (hfr.ev q1) (hfr.TV g1)
 rw [← this]
 congr 2
 cases o with
 | mk d op ty pos af gd=>
  simp only at hop
  subst hop
  cases cl with
  | mk callee args ats=>simp only at hcl;subst hcl;simp
theorem Fs {cl:Call} {f:Nat} {en:Entry} {x:Operand} {o:Oper} (hop:o.op= .call cl) (hcl:cl.callee= .value x) (hx:S.get x= .fn f) (he:aa P G f en) (hrd:IG c o en=true) {z:ai (en.ps.map fq.ty)} (hz:xR S en.ps cl.args.toList=some z) {q:ai (en.rs++outs en.ps)} (hq:en.f z=some q)
  {el:Nat} {t:Ty} {l:(Ty.mr el t).den} (hu:aI (en.rs++outs en.ps) q=[⟨.mr el t,l⟩]) (hfl:t.flat=true) {W:d_} {e:Env} {eh oh:List Chunk} (hs:aZ S W e eh oh) {a:Act} {w:World} (hfr:Fr a N e) (hb:Hb C w (eh++oh) (Inv G W.φ)):
  ∃ vs:Array Value,(execOp a.eval o).run P w= .ok (.enter f vs) w∧Calls P f vs w fun y w'=> ∃ v k1,y= .returned v∧DR W (.v (.mr el t) l) v k1∧Hb C w' (k1++(eh++oh)) (Inv G W.φ):=by
 have hp: ∀ p∈en.ps,p.DN=true:=by
  unfold IG at hrd
  rw [Bool.and_eq_true,List.all_eq_true] at hrd
  exact hrd.2
 obtain ⟨vs,g1,g2⟩:=Dm (C:=C) (G:=G) hs _ _ _ hz hp he.top
 have h0:(execOp a.eval o).run P w= .ok (.enter f vs.toArray) w:=by
  have:=zK (P:=P) (w:=w) (d:=o.dst) (ty:=o.type) (pos:=o.pos) (af:=o.after) (gd:=o.guard) (ats:=cl.argTypes) he.go (a:=a) (fo:=x) (hfr.ev (Gy hs.env hx)) (hfr.TV g1)
  rw [← this]
  congr 2
  cases o with
  | mk d op ty pos af gd=>
   simp only at hop
   subst hop
   cases cl with
   | mk callee args ats=>simp only at hcl;subst hcl;simp
 have hbl:Hb ⟨w,[],fun _=>none⟩ w [] (Inv G (cellsOf w)):=by
  refine ⟨⟨rfl,rfl,rfl,Nat.le_refl _,fun _ _ _=>rfl,fun c hc=>absurd hc (by simp),fun c hc=>absurd hc (by simp),fun c hc=>absurd hc (by simp),fun c hc=>absurd hc (by simp),List.Pairwise.nil,fun k m h=>by cases h⟩,fun w2 x2=>⟨(hb.box w2 ?_).1,fun a v ha=>?_,fun g hg=>?_⟩⟩
  ·have hbk: ∀ k,k<w.heap.size→w2.heap[k]? =w.heap[k]? :=fun k hk=>x2.block k hk rfl (fun _ hc=>absurd hc (by simp))
   exact ⟨x2.os,x2.tape,x2.output,x2.size,fun k hk _ _=>hbk k hk,fun k _ hk _ _=>Same.of_block (hbk k hk),fun _ _ k _ hk=>Same.of_block (hbk k hk)⟩
  ·have hk:a.block<w.heap.size:=by
    have ha:w.cell? a=some v:=ha
    cases hg:w.heap[a.block]? with
    | none=>simp [World.cell?,hg] at ha
    | some o=>exact (Array.getElem?_eq_some_iff.1 hg).1
   exact (World.cell?_of_block (x2.block _ hk rfl (fun _ hc=>absurd hc (by simp)))).trans ha
  ·obtain ⟨cs,t,hg⟩:=hg
   exact ⟨cs,t,(x2.block _ (Array.getElem?_eq_some_iff.1 hg).1 rfl (fun _ hc=>absurd hc (by simp))).trans hg⟩
 have hl:en.rs++outs en.ps=[.mr el t]:=by
  have:=um (en.rs++outs en.ps) q
  rw [hu] at this
  exact this.symm
 have hr1:en.rs.length=1:=by
  rw [Jn hp,List.append_nil] at hl
  rw [hl];rfl
 refine ⟨vs.toArray,h0,?_⟩
 refine (he.ok z q hq ⟨w,[],fun _=>none⟩ (cellsOf w) vs [] [] (g2 w hb) hbl).mono fun y w' hy=>?_
 obtain ⟨v,φ',k1,k2,rfl,hle,hb1,⟨us,t1,rfl⟩,hobs⟩:=hy
 rw [hu,hr1] at t1 hobs
 have t1:ji φ' [⟨.mr el t,l⟩] us k1:=t1
 cases t1 with
 | @cons _ _ cs k1 hs0 _ vs0 _ r2 r3=>
 cases r3
 cases hobs
 obtain ⟨A,cc,css,rfl,m2,m3,m4,m5⟩:=r2
 have hrp:Rp W.φ (.mr el t) l [.slice A (List.length l) cc] k1:=⟨A,cc,css,rfl,m2,m3.imp (fun x c hx=>by obtain ⟨e3,_⟩:=jK hfl hx;rw [e3];exact tY hfl),m4,m5⟩
 simp only [List.append_nil] at hb1
 have hbk: ∀ k,k<w.heap.size→w'.heap[k]? =w.heap[k]? :=fun k hk=>hb1.hp.keep k hk (fun _ hc=>absurd hc (by simp))
 have hnew: ∀ c∈k1, ∀ g,c.blk=some g→w.heap.size≤g:=fun c hc g hg=>by
  rcases hb1.hp.own c hc g hg with ⟨m,hm,_⟩ | h
  ·cases hm
  ·exact h
 have hold: ∀ c∈eh++oh, ∀ g,c.blk=some g→g<w.heap.size:=fun c hc g hg=>Chunk.lt (hb.hp.hold c hc) hg
 have hb2:Hb C w' (k1++(eh++oh)) (Inv G W.φ):=by
  refine hb.step ⟨hb1.hp.os,hb1.hp.tape,hb1.hp.output,hb1.hp.size,fun k hk _ _=>hbk k hk,fun k _ hk _ _=>Same.of_block (hbk k hk),fun _ _ k _ hk=>Same.of_block (hbk k hk)⟩ ?_ ?_ ?_ ?_
  ·intro c hc
   rcases List.mem_append.1 hc with hc | hc
   ·exact hb1.hp.hold c hc
   ·exact Chunk.keep (hb.hp.hold c hc) fun g hg=>hbk g (hold c hc g hg)
  ·intro c hc g hg
   rcases List.mem_append.1 hc with hc | hc
   ·exact .inr (hnew c hc g hg)
   ·exact .inl ⟨c,hc,hg⟩
  ·refine List.pairwise_append.2 ⟨hb1.hp.apart,hb.hp.apart,fun c hc d hd g hg hdg=>?_⟩
   have:=hnew c hc g hg
   have:=hold d hd g hdg
   omega
  ·intro c hc g hg d hd hdg
   rcases List.mem_append.1 hd with hd | hd
   ·have:=hnew d hd g hdg
    have:=hold c hc g hg
    omega
   ·rw [hb.hp.apart.uniq c hc d hd g hg hdg];exact Nat.le_refl _
 exact ⟨_,k1,rfl,⟨_,rfl,rfl,hrp⟩,hb2⟩
theorem NV (hn:c.n=N) {cl:Call} {f:Nat} {en:Entry} {x:Operand} {o:Oper} (hop:o.op= .call cl) (hcl:cl.callee= .value x) (hx:S.get x= .fn f) (he:aa P G f en) (hrd:IG c o en=true) (h:EL c o S en cl.args.toList k=some r): ∃ S',k S'=some r∧ ∀ a w,At N C G S a w→gD P N C G o S' a w:=by
 unfold EL at h
 split at h
 case h_2=>cases h
 case h_1 z hz=>
 obtain ⟨q,hq,h⟩:=Option.bind_eq_some_iff.1 h
 split at h
 case h_2=>cases h
 case h_1 el t l hu=>
 cases hfl:t.flat with
 | false=>rw [hfl] at h;cases h
 | true=>
 rw [hfl] at h
 simp only [cond_true] at h
 obtain ⟨S',h1,h2⟩:=Gh (N:=N) (C:=C) (G:=G) hn h
 refine ⟨S',h1,fun a w ⟨W,e,eh,oh,hs,hfr,hb⟩=>?_⟩
 obtain ⟨vs,h0,h3⟩:=Fs (C:=C) (N:=N) hop hcl hx he hrd hz hq hu hfl hs hfr hb
 unfold gD
 rw [h0]
 exact h3.mono fun y w' ⟨v,k1,hy,hd,hb2⟩=>⟨v,hy,h2 W e eh oh v k1 a w' hs hd hfr hb2⟩
end
end Go.Lf
/-
  What goes through a string.
-/
namespace Go.Lf
open Go Go.iM Go.RowKit
section
variable {P:Program} {N:Nat} {C:Cx} {G:World→Prop} {c:Ctx} {S:St} {Rt:Type} {k:St→Option Rt} {r:Rt}
variable {dst:Option Tmp} {ty:TypeId} {pos:String} {af:Array Edge} {gd:Option (Nat×Bool)}
theorem FU {w:World} {g:Nat} {o o':Obj} (h:(Chunk.obj g o).holds w):(Chunk.obj g o').holds { w with heap:=w.heap.setIfInBounds g o' }:=by
 have h1:w.heap[g]? =some o:=h
 have hlt:=(Array.getElem?_eq_some_iff.1 h1).1
 show (w.heap.setIfInBounds g o')[g]? =some o'
 simp [hlt]
theorem KH {w:World} {g:Nat} {o o':Obj}:Ext (fun _=>none) [.obj g o] w { w with heap:=w.heap.setIfInBounds g o' }:=by
 refine ⟨rfl,rfl,rfl,by simp,fun k _ _ hf=>?_,fun k m _ hm=>(by cases hm),fun c hc k hk _=>?_⟩
 ·have:k≠g:=fun e=>hf (.obj g o) (by simp) (by rw [e];rfl)
  show (w.heap.setIfInBounds g o')[k]? =_
  rw [Array.getElem?_setIfInBounds,if_neg (fun e=>this e.symm)]
 ·simp only [List.mem_singleton] at hc
  subst hc
  exact Same.zero
theorem PQ {a:Act} {N:Nat} {e:Env} (hf:Fr a N e) {s:Nat} {v:Value} (h:rW e s v):a.put (some s) v=a:=by
 have h1:=hf.look h
 have h0:a.put (some s) v={ tmps:=a.tmps.setIfInBounds s v,defers:=a.defers }:=rfl
 rw [h0]
 have h2:a.tmps.setIfInBounds s v=a.tmps:=by
  apply Array.ext
  ·simp
  ·intro i h3 h4
   rw [Array.getElem_setIfInBounds]
   split
   ·rename_i he
    subst he
    rw [Array.getD_eq_getD_getElem?,Array.getElem?_eq_getElem h4] at h1
    exact h1.symm
   ·rfl
 rw [h2]
theorem Ni {α:Type} {l:List (Nat×α)} {k:Nat} {x y:α}:aQ (aQ l k x) k y=aQ l k y:=by
 induction l with
 | nil=>simp [aQ]
 | cons p r ih=>
  obtain ⟨n,v⟩:=p
  rw [aJ,aJ]
  split
  ·rw [aJ,if_pos rfl]
  ·rename_i hne
   rw [aJ,if_neg hne,ih]
theorem Mx (hc:aO P G c) (hn:c.n=N) {t:Nat} {x:Operand} (h:oF c ⟨dst, .range t x,ty,pos,af,gd⟩ S k=some r): ∃ S',k S'=some r∧ ∀ a w,At N C G S a w→gD P N C G ⟨dst, .range t x,ty,pos,af,gd⟩ S' a w:=by
 simp only [oF] at h
 unfold C8 at h
 split at h
 case h_2=>cases h
 case h_1 l hx=>
 cases hb:iy c t .str with
 | false=>rw [hb] at h;cases h
 | true=>
  rw [hb] at h
  obtain ⟨i,hi,ho⟩:=iU hc.ty hb
  have hu:=jP (ho.str hi)
  obtain ⟨S',h1,h2⟩:=dz (C:=C) (G:=G) hn h
  refine ⟨S',h1,fun a w ⟨W,e,eh,oh,hs,hf,hbw⟩=>?_⟩
  have hv:=l5 hs.env hx
  have hr:(execOp a.eval ⟨dst, .range t x,ty,pos,af,gd⟩).run P w= .ok (.value (.pointer (some ⟨w.heap.size,0,none⟩))) (w.alloc (.stringIter ⟨l.toArray⟩ 0)):=by
   have:=run_range_string w t ⟨l.toArray⟩ hu
   simp only [execOp,hf.ev hv]
   simp [this,Result.andThen,World.iter]
  exact .value hr (h2 W e eh oh _ [.obj w.heap.size (.stringIter ⟨l.toArray⟩ 0)] a _ hs ⟨[.pointer (some ⟨w.heap.size,0,none⟩)],rfl,rfl,w.heap.size,0,rfl,rfl,rfl⟩ hf (hbw.alloc _))
theorem Pz (hn:c.n=N) {x:Operand} (h:oF c ⟨dst, .next x true,ty,pos,af,gd⟩ S k=some r): ∃ S',k S'=some r∧ ∀ a w,At N C G S a w→gD P N C G ⟨dst, .next x true,ty,pos,af,gd⟩ S' a w:=by
 simp only [oF] at h
 unfold II at h
 split at h
 case h_2=>cases h
 case h_1 s=>
 split at h
 case h_2=>cases h
 case h_1 z hl=>
 cases hsn:Nat.blt s c.n with
 | false=>rw [hsn] at h;cases h
 | true=>
 rw [hsn] at h
 simp only [cond_true] at h
 have hsN:s<N:=hn▸j_ hsn
 obtain ⟨z1,z2⟩:=z
 simp only at h
 cases hb:decide (z2<(((List.length z1:Nat)):Int)) with
 | false=>
  rw [hb] at h
  obtain ⟨S',h1,h2⟩:=dz (C:=C) (G:=G) hn h
  refine ⟨S',h1,fun a w ⟨W,e,eh,oh,hs,hf,hbw⟩=>?_⟩
  have hp: ¬ z2<((z1.length:Nat):Int):=of_decide_eq_false hb
  obtain ⟨v,h3,eh',q1,⟨cs,q2,q3,g,p,q4,q4p,q5⟩,q6,q7⟩:=hs.env.strip hl
  have q4p:z2=(p:Int):=q4p
  subst q4 q5 q4p
  subst q3
  have hb2:=(Sub.app q7 (Sub.refl oh)).hb hbw
  have hh:(Chunk.obj g (.stringIter ⟨z1.toArray⟩ p)).holds w:=hb2.hp.hold _ (by simp)
  have hg:w.heap[g]? =some (.stringIter ⟨z1.toArray⟩ p):=hh
  have hev:EV e (.tmp s) (.pointer (some ⟨g,0,none⟩)):= .t q1
  have hp2: ¬ p<(⟨z1.toArray⟩:ByteArray).size:=by rw [nN];omega
  have hr:(execOp a.eval ⟨dst, .next (.tmp s) true,ty,pos,af,gd⟩).run P w= .ok (.value (.tuple #[.bool false])) w:=by
   simp [execOp,hf.ev hev,Instr.next,getObj,Sem.run,hg,hp2,Result.andThen,Sem.run_bind]
  exact .value hr (h2 W e eh oh _ [] a w hs ⟨[.bool false],rfl,ji.cons (t:= .bool) (cs:=[.bool false]) (h:=[]) (hs:=[]) rfl ⟨rfl,rfl⟩ .nil⟩ hf (by simpa using hbw))
 | true=>
  rw [hb] at h
  obtain ⟨S',h1,h2⟩:=dz (C:=C) (G:=G) hn h
  refine ⟨S',h1,fun a w ⟨W,e,eh,oh,hs,hf,hbw⟩=>?_⟩
  have hp:z2<((z1.length:Nat):Int):=of_decide_eq_true hb
  obtain ⟨v,h3,eh',q1,⟨cs,q2,q3,g,p,q4,q4p,q5⟩,q6,q7⟩:=hs.env.strip hl
  have q4p:z2=(p:Int):=q4p
  subst q4 q5 q4p
  have hb2:Hb C w (.obj g (.stringIter ⟨z1.toArray⟩ p)::(eh'++oh)) (Inv G W.φ):=by
   have:=(Sub.app q7 (Sub.refl oh)).hb hbw
   simpa using this
  have hh:(Chunk.obj g (.stringIter ⟨z1.toArray⟩ p)).holds w:=hb2.hp.hold _ (by simp)
  have hg:w.heap[g]? =some (.stringIter ⟨z1.toArray⟩ p):=hh
  have hv:v= .pointer (some ⟨g,0,none⟩):=q3
  have hev:EV e (.tmp s) (.pointer (some ⟨g,0,none⟩)):= .t (hv▸q1)
  have hp2:p<(⟨z1.toArray⟩:ByteArray).size:=by rw [nN];omega
  have hr:(execOp a.eval ⟨dst, .next (.tmp s) true,ty,pos,af,gd⟩).run P w= .ok (.value (.tuple #[.bool true, .int .i64 (p:Int), .int .i32 ((Utf8.decode ⟨z1.toArray⟩ p).1:Int)])) { w with heap:=w.heap.setIfInBounds g (.stringIter ⟨z1.toArray⟩ (p+(Utf8.decode ⟨z1.toArray⟩ p).2)) }:=by
   simp [execOp,hf.ev hev,Instr.next,getObj,setObj,Sem.run,hg,hp2,goInt,Result.andThen,Sem.run_bind]
  have hbt:=hb2.turn (c':= .obj g (.stringIter ⟨z1.toArray⟩ (p+(Utf8.decode ⟨z1.toArray⟩ p).2))) KH (FU hh) (fun g' hg'=> .inl ⟨hg',Nat.le_refl _⟩)
  obtain ⟨hs2,r1,r2⟩:=q6.put (k:=s) (d:= .v .it (z1,((p:Int)+Bb z1 p))) (v:=v) (hd:=[.obj g (.stringIter ⟨z1.toArray⟩ (p+(Utf8.decode ⟨z1.toArray⟩ p).2))]) ⟨[.pointer (some ⟨g,0,none⟩)],rfl,q3,g,p+(Utf8.decode ⟨z1.toArray⟩ p).2,rfl,rfl,rfl⟩
  rw [Ni] at r1
  have hfr:Fr a N (aQ e s v):=by
   have:=Ch hf (d:=s) (v:=v) hsN
   rw [PQ hf q1] at this
   exact this
  have hb3:Hb C { w with heap:=w.heap.setIfInBounds g (.stringIter ⟨z1.toArray⟩ (p+(Utf8.decode ⟨z1.toArray⟩ p).2)) } (hs2++oh) (Inv G W.φ):=(Sub.app r2 (Sub.refl oh)).hb hbt
  exact .value hr (h2 W (aQ e s v) hs2 oh _ [] a _ ⟨r1,hs.l9,hs.nd⟩ ⟨[.bool true, .int .i64 (p:Int), .int .i32 ((Utf8.decode ⟨z1.toArray⟩ p).1:Int)],rfl,
   ji.cons (t:= .bool) (cs:=[.bool true]) (h:=[]) (hs:=[]) rfl ⟨rfl,rfl⟩ (ji.cons (t:= .int .i64) (cs:=[.int .i64 (p:Int)]) (h:=[]) (hs:=[]) rfl ⟨rfl,rfl⟩ (ji.cons (t:= .int .i32) (cs:=[.int .i32 ((Utf8.decode ⟨z1.toArray⟩ p).1:Int)]) (h:=[]) (hs:=[]) rfl ⟨rfl,rfl⟩ .nil))⟩ hfr (by simpa using hb3))
end
end Go.Lf
/-
  copy.
-/
namespace Go.Lf
open Go Go.iM
section
variable {P:Program} {N:Nat} {C:Cx} {G:World→Prop} {c:Ctx} {S:St} {Rt:Type} {k:St→Option Rt} {r:Rt} {a:Act} {w:World}
variable {W:d_} {e:Env} {eh oh:List Chunk} {dst:Option Tmp} {ty:TypeId} {pos:String} {af:Array Edge} {gd:Option (Nat×Bool)}
theorem Qx {φ:bL} {A A2:Option Addr} {dT sT nd cc el el2 ns c2:Nat} {xs ys:List Value} {rest:List Chunk} (ht:QT P dT el2 1=true) (hb:Hb C w (.row false (.slice A nd cc) el 1 nd xs::rest) (Inv G φ)) (hd:nd=xs.length) (hs:ns=ys.length) (hsrc:nD φ A2 ns ys) (hA:0<nd→A.isSome=true) (h1: ∀ u∈ys,u.oneCell'=true):
  ∃ w',(Builtin.copy_ #[dT,sT] ty #[.slice A nd cc, .slice A2 ns c2]).run P w= .ok (.int .i64 ((Nat.min ns nd:Nat):Int)) w'∧Hb C w' (.row false (.slice A nd cc) el 1 nd (ys.take nd++xs.drop ns)::rest) (Inv G φ):=by
 have hu:=(dM ht).1
 obtain ⟨i0,hi0,hsz⟩:=tK (dM ht).2
 by_cases hn:Nat.min ns nd=0
 ·refine ⟨w,?_,?_⟩
  ·have:=run_copy_none (P:=P) w dT sT ty el2 A A2 nd cc ns c2 hu (by rw [hi0];simp [hsz]) hn
   rw [this,hn];rfl
  ·have:ys.take nd++xs.drop ns=xs:=by
    rcases Nat.min_eq_zero_iff.1 hn with h | h
    ·subst h
     have:ys=[]:=List.eq_nil_of_length_eq_zero hs.symm
     subst this;simp
    ·subst h
     have:xs=[]:=List.eq_nil_of_length_eq_zero hd.symm
     subst this;simp
   rw [this];exact hb
 ·have hpos:0<ns∧0<nd:=by
   constructor
   ·rcases Nat.eq_zero_or_pos ns with h | h
    ·subst h;exact absurd (Nat.zero_min _) hn
    ·exact h
   ·rcases Nat.eq_zero_or_pos nd with h | h
    ·subst h;exact absurd (Nat.min_zero _) hn
    ·exact h
  obtain ⟨A0,hA0⟩:=Option.isSome_iff_exists.1 (hA hpos.2)
  subst hA0
  obtain ⟨ad,hA2,hph⟩:=hsrc hpos.1
  subst hA2
  have hlen:(ys.take nd).length=Nat.min ns nd:=by rw [List.length_take, ← hs];exact Nat.min_comm _ _
  have hmn:Nat.min ns nd≤nd:=Nat.min_le_right _ _
  obtain ⟨w',r1,r2⟩:=zZ (P:=P) (off:=0) (vs:=ys.take nd) hb (fun u hu=>h1 u (List.mem_of_mem_take hu)) (by omega)
  have hag:Agree φ w:=hb.get.2
  have hl:=run_loadCells_list (P:=P) w ad (ys.take nd) fun j v hv=>hag _ _ (hph j v (by
   rw [List.getElem?_take] at hv
   split at hv
   ·exact hv
   ·cases hv))
  have hadd:A0.add 0=A0:=by unfold Addr.add;cases A0;split<;>simp_all
  rw [hadd] at r1
  rw [hlen] at hl
  refine ⟨w',?_,?_⟩
  ·simp [Builtin.copy_,run_underlying hu,Builtin.lenOf,Builtin.firstCells,sizeOf,typeInfo,hi0,hsz,hl,r1,goInt]
  ·have:ys.take nd++xs.drop ns=xs.take 0++ys.take nd++xs.drop (0+(ys.take nd).length):=by
    rw [hlen]
    simp only [List.take_zero,List.nil_append,Nat.zero_add]
    congr 1
    by_cases h:ns≤nd
    ·rw [show Nat.min ns nd=ns from Nat.min_eq_left h]
    ·rw [show Nat.min ns nd=nd from Nat.min_eq_right (by omega),List.drop_eq_nil_of_le (by omega),List.drop_eq_nil_of_le (by omega)]
   rw [this];exact r2
theorem Oy {α:Type} (l m:List α):(over l m).length=l.length:=by
 unfold over;simp only [List.length_append,List.length_take,List.length_drop];omega
theorem TG {s:Nat}: ∀ {css:List (List Value)},(∀ c∈css,c.length=s)→s=1→ ∀ n,(css.take n).flatten=css.flatten.take n∧(css.drop n).flatten=css.flatten.drop n:=fun h e n=>by
 subst e
 exact ⟨by rw [tF _ h];simp,by rw [Au _ h];simp⟩
theorem Ma {φ:bL} {t:Ty} {l:List t.den} {css:List (List Value)} (h:bz (fun x cs=>Rp φ t x cs []) l css): ∀ cx∈css,cx.length=t.size:=fun cx hcx=>by
 obtain ⟨ix,hix⟩:=List.getElem?_of_mem hcx
 have hlt:=(List.getElem?_eq_some_iff.1 hix).1
 rw [← h.length] at hlt
 obtain ⟨b',hb1,hb2⟩:=h.get (List.getElem?_eq_getElem hlt)
 rw [hix] at hb1
 injection hb1 with hb1
 subst hb1
 exact hb2.len
theorem SF {φ:bL} {t:Ty} {l:List t.den} {css:List (List Value)} (h:bz (fun x cs=>Rp φ t x cs []) l css): ∀ u∈css.flatten,u.oneCell'=true:=fun u hu=>by
 obtain ⟨cx,hcx,hu⟩:=List.mem_flatten.1 hu
 obtain ⟨ix,hix⟩:=List.getElem?_of_mem hcx
 have hlt:=(List.getElem?_eq_some_iff.1 hix).1
 rw [← h.length] at hlt
 obtain ⟨b',hb1,hb2⟩:=h.get (List.getElem?_eq_getElem hlt)
 rw [hix] at hb1
 injection hb1 with hb1
 subst hb1
 exact hb2.one u hu
theorem O6 (hc:aO P G c) (hn:c.n=N) {x y:Operand} {t t2:Nat} {args:Array Operand} {og:Array TypeId} (ha1:args.toList=[x,y]) (ha2:og.toList=[t,t2])
  (h:EZ c ⟨dst, .call ⟨.builtin .copy,args,og⟩,ty,pos,af,gd⟩ S x y t k=some r): ∃ S',k S'=some r∧ ∀ a w,At N C G S a w→gD P N C G ⟨dst, .call ⟨.builtin .copy,args,og⟩,ty,pos,af,gd⟩ S' a w:=by
 have ha1:args= #[x,y]:=by rw [← Array.toArray_toList (xs:=args),ha1]
 have ha2:og= #[t,t2]:=by rw [← Array.toArray_toList (xs:=og),ha2]
 subst ha1 ha2
 unfold EZ at h
 split at h
 case h_2=>cases h
 case h_1 j p off te el0 sz0 hx hi=>
 split at h
 case h_2=>cases h
 case h_1 ob el t' l m hob hat hy=>
 split at h
 case isFalse=>cases h
 case isTrue htt=>
 subst htt
 cases hs1:Nat.beq t'.size 1 with
 | false=>rw [hs1] at h;cases h
 | true=>
 rw [hs1] at h
 simp only [cond_true] at h
 have hsz:=Nat.eq_of_beq_eq_true hs1
 split at h
 case h_2=>cases h
 case h_1 z0 hset=>
 obtain ⟨S',q1,q2⟩:=dz (C:=C) (G:=G) hn h
 refine ⟨S',q1,fun a w ⟨W,e,eh,oh,hs,hf,hb⟩=>?_⟩
 have hti:=(hc.ty _ _ hi).sl t' rfl
 have hfrz:=(hc.ty _ _ hi).DN
 obtain ⟨ob2,a1,a2,a3⟩:=zO hat
 have he2:ob2=ob:=Option.some.inj (a1.symm.trans hob)
 subst he2
 obtain ⟨h0,rr,⟨hc0,b1,b2⟩,b3,b4,_⟩:=hs.l9.set hs.nd hob
 obtain ⟨pre,mid,post,h1,h2,h3,s0,g0,g1,g2,g3,g4,g5,g6,g7,g8⟩:=iC hset b1
 have hs0:s0=⟨.mr el t',l⟩:=Option.some.inj (g0.symm.trans a3)
 subst hs0
 obtain ⟨A,cc,css,m1,m2,m3,m4,m5⟩:=g5
 have m1:mid=[.slice A (List.length l) cc]:=m1
 subst m1
 have hcell:(W.hd j)[off]? =some (.slice A (List.length l) cc):=by rw [g2, ← a2, ← g3];simp
 obtain ⟨v,_,_,hx1,⟨k1,_⟩,_,_⟩:=dn hs (x:=x) hx (by intro e;cases e)
 rw [hcell] at k1
 simp only [Option.some.injEq] at k1
 subst k1
 obtain ⟨vs,v1,v2⟩:=jo hs.env hy hfrz
 obtain ⟨A2,c2,css2,n1,n2,n3,n4,_⟩:=v2
 subst n1
 have hall:=Ma m3
 have hall2:=Ma n3
 have hl1:css.flatten.length=List.length l:=by rw [fI _ hall, ← m3.length,hsz,Nat.mul_one]
 have hl2:css2.flatten.length=List.length m:=by rw [fI _ hall2, ← n3.length,hsz,Nat.mul_one]
 have b2':h0=eO W j ob2.tid (W.hd j)++(h1++h2++h3):=by rw [b2,g4];unfold eO;cases ob2.tid<;>rfl
 have m5':h2=[.row false (.slice A (List.length l) cc) el 1 (List.length l) css.flatten]:=by rw [← hsz];exact m5
 have hperm:(eh++oh).Perm (.row false (.slice A (List.length l) cc) el 1 (List.length l) css.flatten::(eh++(eO W j ob2.tid (W.hd j)++(h1++[]++h3)++rr))):=by
  refine (b3.append_left eh).trans ?_
  rw [b2',m5']
  exact (List.Perm.append_left eh (DD)).trans (List.perm_append_comm_assoc _ _ _)
 have hts:=hti.1
 rw [hsz] at hts
 obtain ⟨w',r1,r2⟩:=Qx (P:=P) (ty:=ty) (dT:=t) (sT:=t2) (A2:=A2) (ns:=List.length m) (c2:=c2) (ys:=css2.flatten) hts (hb.perm hperm) hl1.symm hl2.symm n4 m4 (SF n3)
 have hrun:(execOp a.eval ⟨dst, .call ⟨.builtin .copy, #[x,y], #[t,t2]⟩,ty,pos,af,gd⟩).run P w= .ok (.value (.int .i64 ((Nat.min (List.length m) (List.length l):Nat):Int))) w':=by
  have e1:=hf.ev hx1
  have e2:=hf.ev v1
  simp only [sv] at e2
  simp [execOp,resolve,invoke,builtin,e1,e2,r1]
 have hov:(over l m).length=List.length l:=Oy l m
 have hfl:(css2.take (List.length l)++css.drop (List.length m)).flatten=css2.flatten.take (List.length l)++css.flatten.drop (List.length m):=by
  rw [List.flatten_append,(TG hall2 hsz _).1,(TG hall hsz _).2]
 have hrow:Rp W.φ (.mr el t') (over l m) [.slice A (List.length l) cc] [.row false (.slice A (List.length l) cc) el 1 (List.length l) (css2.flatten.take (List.length l)++css.flatten.drop (List.length m))]:=by
  refine ⟨A,cc,css2.take (List.length l)++css.drop (List.length m),by rw [hov],by rw [hov];exact m2,(n3.take _).append (m3.drop _),by rw [hov];exact m4,by rw [hov,hfl,hsz]⟩
 have hz:=g8 W.φ _ _ W.φ.le_refl hrow
 have hcs:pre++[.slice A (List.length l) cc]++post=W.hd j:=g2.symm
 rw [hcs] at hz
 obtain ⟨hs',w1,w2⟩:=b4 W.φ (W.hd j) ⟨ob2.tid,z0.1,z0.2⟩ (eO W j ob2.tid (W.hd j)++(h1++[.row false (.slice A (List.length l) cc) el 1 (List.length l) (css2.flatten.take (List.length l)++css.flatten.drop (List.length m))]++h3)) W.φ.le_refl ⟨_,by rw [upd_same];exact hz,by rw [upd_same];unfold eO;cases ob2.tid<;>rfl⟩
 rw [upd_same] at w1
 refine .value hrun (q2 W e eh hs' _ [] a w' ⟨hs.env,w1,?_⟩ ⟨[_],rfl,rfl,rfl,rfl⟩ hf ((Sub.perm ?_).hb r2))
 ·rw [mK _ _ _ (jF hob)]
  exact hs.nd
 ·refine List.Perm.trans ?_ (w2.append_left eh).symm
  exact ((List.Perm.append_left eh (DD)).trans (List.perm_append_comm_assoc eh [_] _)).symm
end
end Go.Lf
/-
  Every operation.
-/
namespace Go.Lf
open Go Go.iM
section
variable {P:Program} {N:Nat} {C:Cx} {G:World→Prop} {c:Ctx} {S:St} {Rt:Type} {k:St→Option Rt} {r:Rt}
theorem Rk (hc:aO P G c) (hn:c.n=N) {o:Oper} (h:oF c o S k=some r): ∃ S',k S'=some r∧ ∀ a w,At N C G S a w→gD P N C G o S' a w:=by
 obtain ⟨dst,op,ty,pos,af,gd⟩:=o
 cases op with
 | move x=>exact Hl hn (.inl rfl) h
 | assign x=>exact Hl hn (.inr rfl) h
 | extract x i=>exact H5 hn h
 | load t x=>exact P8 hc hn h
 | store t x z=>
  simp only [oF] at h
  cases dst with
  | none=>exact MO hc h
  | some _=>cases h
 | alloc t=>exact Nz hc hn h
 | build t parts=>exact Nv hc hn h
 | box t x=>
  simp only [oF] at h
  cases dst with
  | none=>cases h
  | some d=>exact SG hc hn h
 | range t x=>exact Mx hc hn h
 | next x b=>cases b with
  | true=>exact Pz hn h
  | false=>cases h
 | buildSlice t n parts=>exact EE hc hn h
 | makeSlice t x y=>exact Gv hc hn h
 | slice tx x lo hi mx=>
  simp only [oF] at h
  cases mx with
  | none=>exact MU hc hn h
  | some _=>cases h
 | makeInterface t x=>exact MJ hc hn h
 | call cl=>
  simp only [oF] at h
  obtain ⟨callee,args,og⟩:=cl
  cases callee with
  | value f=>
   simp only at h
   split at h
   case h_3=>cases h
   case h_1 fi hx=>
    split at h
    case h_2=>cases h
    case h_1 en hf=>
    cases hrd:IG c ⟨dst, .call ⟨.value f,args,og⟩,ty,pos,af,gd⟩ en with
    | true=>
     rw [hrd] at h
     exact NV hn rfl rfl hx (zM hc hf) hrd h
    | false=>
    rw [hrd] at h
    simp only [cond_false] at h
    split at h
    case h_2=>cases h
    case h_1 z js S1 hz=>
    obtain ⟨q,hq,h⟩:=Option.bind_eq_some_iff.1 h
    split at h
    case h_2=>cases h
    case h_1 S2 hb=>exact Qa hn rfl rfl hx (zM hc hf) hz hq hb h
   case h_2 fi n l hx=>
    split at h
    case h_2=>cases h
    case h_1 en hf=>
    split at h
    case h_2=>cases h
    case h_1 z js S1 hz=>
    obtain ⟨q,hq,h⟩:=Option.bind_eq_some_iff.1 h
    split at h
    case h_2=>cases h
    case h_1 S2 hb=>exact OT hn rfl rfl hx (zM hc hf) hz hq hb h
  | invoke x m=>
   simp only at h
   split at h
   case h_2=>cases h
   case h_1 d e0 har hx=>
   split at h
   case h_2=>cases h
   case h_1 v hv=>
   split at h
   case isFalse=>cases h
   case isTrue hm=>
   obtain ⟨q,hq,h⟩:=Option.bind_eq_some_iff.1 h
   exact Pf hn rfl rfl har hx hm (hc.iv _ _ hv) hq h
  | builtin b=>
   cases b with
   | append=>
    simp only at h
    split at h
    case h_2=>cases h
    case h_1 x y t t2 h1 h2=>exact KN hc hn h1 h2 h
   | copy=>
    simp only at h
    split at h
    case h_2=>cases h
    case h_1 x y t t2 h1 h2=>exact O6 hc hn h1 h2 h
   | _=>cases h
 | _=>cases h
theorem Pj (hc:aO P G c) (hn:c.n=N) {o:Oper} (h:F8 c o S k=some r): ∃ S',k S'=some r∧ ∀ a w,At N C G S a w→gD P N C G o S' a w:=by
 unfold F8 at h
 cases hv:kY c o with
 | false=>rw [hv] at h;exact Rk hc hn h
 | true=>
  rw [hv] at h
  obtain ⟨d,h1,h2⟩:=FQ (N:=N) (C:=C) hc h
  exact Pk hn h1 h2
end
end Go.Lf
/-
  A soup's reckoning: a region that draws its order, each operation at the state cut to the slots it looks at.
-/
namespace Go.Lf
open Go Go.iM
def uV (S:St):List Nat→List (Nat×D)
 | []=>[]
 | s::r=>bif mem s r then uV S r else match look S.env s with
  | some d=>(s,d.j5)::uV S r
  | none=>uV S r
def Ug:D→Bool
 | .ref _ _ _=>false
 | .bO _ _ _=>false
 | .xZ _ _ _ _ _ _ _=>false
 | .xV _ _ _ _ _ _ _=>false
 | .sJ _ _ _=>false
 | .MK _ _ _ _=>false
 | .NQ _ _ _ _ _=>false
 | .zR _ _ _=>false
 | _=>true
def qB (c:Ctx) (o:Oper):Bool:=kY ⟨c.n,c.ty,c.fn,[],[],c.own,c.ip,c.eqs,c.fx,c.fu,c.im,c.iv⟩ o
def GL (ks:List Nat):D→Bool
 | .ref j _ _=> !mem j ks
 | .bO j _ _=> !mem j ks
 | .xZ j _ _ _ _ _ _=> !mem j ks
 | .xV j _ _ _ _ _ _=> !mem j ks
 | .sJ j _ _=> !mem j ks
 | .MK _ j _ _=> !mem j ks
 | .NQ j _ _ _ _=> !mem j ks
 | .zR _ _ l=>l.all fun p=> !mem p.2.1 ks
 | _=>true
def jU (ks:List Nat):List (Nat×D)→List (Nat×D)
 | []=>[]
 | (k,d)::r=>(k,bif GL ks d then d else .und)::jU ks r
def Wz (c:Ctx) (S:St) (o:Oper):Option (Nat×List Dir×Nat):=match o.dst,o.op with
 | some d, .load t a=>bif mem d c.tk then match S.get a with
   | .ref j p off=>match S.ED j p off,look c.ty t with
    | some ⟨.rw _ t',_⟩,some i=>if Ty.sl t'=i.ty then some (j,p,off) else none
    | _,_=>none
   | _=>none
  else none
 | _,_=>none
def Qi (d:Nat):D→Bool
 | .ref j [] 0=>Nat.beq j d
 | .bO j [] 0=>Nat.beq j d
 | _=>false
def Ii (c:Ctx) (d:Nat):Option (Nat×Nat×Ty):=match look c.own (4000000+d) with
 | some (.dead s (.rw el t))=>some (s,el,t)
 | _=>none
def KS (c:Ctx) (o:Oper):Bool:=match o.dst with | some d=>Option.isNone (Ii c d) | none=>true
def GA (s el:Nat) (t:Ty) (E:List (Nat×D)):Option (List (Nat×D)):=match look E s with
 | some (.v (.sl t') l)=>if h:t'=t then some (aQ E s (.v (.rw el t) (h▸l:List t.den))) else none
 | _=>none
section
variable {R:Type}
def WQ (c:Ctx) (d:Nat):Bool:=match look c.own (8000000+d) with | some _=>true | none=>false
def YK (c:Ctx) (S:St) (o:Oper) (k:D→Option R):Option R:=match o.op with
 | .call cl=>match cl.callee with
  | .value x=>match S.get x with
   | .fn f=>match EI c o.dst f with
    | some e=>bif IG c o e then (match xR S e.ps cl.args.toList with
      | some z=>(e.f z).bind fun r=>match aI (e.rs++outs e.ps) r with
       | [⟨.mr el t,l⟩]=>bif t.flat then k (.v (.mr el t) l) else none
       | _=>none
      | none=>none) else none
    | none=>none
   | _=>none
  | _=>none
 | _=>none
def Ua (c:Ctx) (ks:List Nat) (S:St) (o:Oper) (d:Nat) (k:D→Option Ob→Option R):Option R:=match Ii c d with
 | some (s,el,t)=>match GA s el t S.env with
  | some E'=>F8 c o ⟨E',[]⟩ fun S'=>match look S'.env d with
   | some x=>bif Ug x then k x none else none
   | none=>none
  | none=>none
 | none=>match Wz c S o with
  | some (j,p,off)=>bif mem j ks then none else k (.bO j p off) none
  | none=>bif qB c o then fF c o.op S fun x=>bif GL ks x then k x none else none
   else bif WQ c d then YK c S o fun x=>k x none else F8 c o ⟨S.env,[]⟩ fun S'=>match look S'.env d with
    | some x=>bif Ug x then k x none else bif Qi d x && mem d ks then match look S'.az d with
      | some ob=>k x (some ob)
      | none=>none
     else none
    | none=>none
def uF (c:Ctx) (all:List Oper) (ks:List Nat) (O:List (Nat×Ob)):List Oper→List (Nat×D)→(List (Nat×D)→List (Nat×Ob)→Option R)→Option R
 | [],E,k=>k E []
 | o::r,E,k=>match o.dst with
  | some d=>bif Nat.blt d c.n then
    let run:=fun (E:List (Nat×D))=>Ua c ks ⟨uV ⟨E,[]⟩ (o.looksAt all.toArray),O⟩ o d fun x ob=>uF c all ks O r (aQ E d x) fun E' nw=>k E' (match ob with | some b=>(d,b)::nw | none=>nw)
    match o.guard with
    | none=>run E
    | some (j,want)=>match A_ all j with
     | some s=>bif mem s (o.looksAt all.toArray) then match look E s with
       | some (.v .bool b)=>bif (bif want then b else !b) then run (aQ E s (bR want)) else uF c all ks O r (aQ (aQ E s (bR (!want))) d .EF) k
       | some .EF=>uF c all ks O r (aQ E d .EF) k
       | _=>none
      else none
     | none=>none
   else none
  | none=>none
end
def Dc (o:Oper):Bool:=match o.op with
 | .move _=>true
 | .assign _=>true
 | .extract _ _=>true
 | .slice _ _ _ _ _=>true
 | .nilCheck _=>true
 | .fieldAddr _ _ _=>true
 | _=>false
def addN:List Nat→List Nat→List Nat
 | [],r=>r
 | k::l,r=>bif mem k r then addN l r else addN l (k::r)
def Qk (o:Oper):List Nat:=o.after.toList.filterMap fun e=>bif Region.binds .any e then some e.on else none
def zT (ops:Array Oper):Nat→List Nat→List Nat
 | 0,r=>r
 | k+1,r=>bif mem k r then (match ops[k]? with | some o=>zT ops k (addN (Qk o) r) | none=>zT ops k r) else zT ops k r
def ru (ops:Array Oper) (n:Nat):List Nat:=match ops[n]? with | some o=>zT ops n (Qk o) | none=>[]
def LU (ops:Array Oper) (i:Nat):Bool:=match ops[i]? with
 | none=>false
 | some oi=>let R:=ru ops i;(List.range ops.size).all fun j=>j ==i || mem j R || match ops[j]? with
   | some oj=>oj.after.any (fun e=>Region.binds .any e && e.on ==i) || oi.apart ops oj
   | none=>true
def zn (l:List Oper) (n:Nat):Bool:=
 let ops:=l.toArray
 decide (n≤ops.size)
 && ((List.range ops.size).all fun i=>match ops[i]? with | some o=>o.after.all fun e=> !Region.binds .any e || decide (e.on<i) | none=>true)
 && (decide (n=ops.size) || (decide (n<ops.size) && Region.chainB .any ops n && Region.noSelect ops && let R:=ru ops n;(List.range n).all fun i=>mem i R || match ops[i]? with
   | some o=>Dc o && o.guard.isNone && LU ops i
   | none=>true))
def qE (c:Ctx) (l:List Oper):List Nat:=l.filterMap fun o=>bif qB c o then none else o.dst
def I4 (l:List Oper) (n:Nat):Bool:=(List.range n).all fun i=>match l[i]? with
 | some oi=>(List.range n).all fun j=>Nat.beq i j || match l[j]? with
  | some oj=>(match oj.dst with
   | some s=>(match oi.dst with | some t=> !Nat.beq t s | none=>true) && (!mem s (oi.looksAt l.toArray) || (Nat.blt j i && Region.waitsFor .any l.toArray i j) || (Nat.blt i j && Region.waitsFor .any l.toArray j i))
   | none=>true)
  | none=>true
 | none=>true
def nodupB:List Nat→Bool
 | []=>true
 | k::r=>bif mem k r then false else nodupB r
def posOf (j:Nat):List Nat→Nat
 | []=>0
 | k::r=>bif Nat.beq k j then 0 else posOf j r+1
def Jd (s:List Nat) (o:Oper):Oper:={ o with after:=(o.after.toList.map fun e=>{ e with on:=posOf e.on s }).toArray,guard:=match o.guard with | some (j,b)=>some (posOf j s,b) | none=>none }
def oU (s:List Nat) (l:List Oper):List Oper:=s.filterMap fun i=>match l[i]? with | some o=>some (Jd s o) | none=>none
def Jq (s:List Nat) (l:List Oper):Bool:=nodupB s && ((List.range l.length).all fun j=>mem j s) && (s.all fun i=>Nat.blt i l.length) && Nat.beq s.length l.length && l.all fun o=>(o.after.toList.all fun e=>Nat.blt e.on l.length) && (match o.guard with | some (j,_)=>Nat.blt j l.length | none=>true)
def F7 (c:Ctx) (o:Oper):Option Nat:=match o.dst,o.op with
 | some d, .assign _=>some d
 | some d, .move _=>some d
 | some d, .call cl=>match cl.callee,cl.args.toList,cl.argTypes.toList with
  | .builtin .len,[_],[t]=>match look c.ty t with
   | some i=>match i.ty with
    | .sl _=>some d
    | _=>none
   | none=>none
  | _,_,_=>none
 | _,_=>none
def Oj (js:List Nat) (o:Oper):Oper:={ o with after:=o.after++(js.map fun j=>(⟨j, .data⟩:Edge)).toArray }
def fJ (i:Nat) (js:List Nat) (l:List Oper):List Oper:=l.mapIdx fun k o=>bif Nat.beq k i then Oj js o else o
def Pp (i:Nat) (l:List Oper) (D:List Nat):Bool:=D.all fun j=> !Nat.beq j i && Nat.blt j l.length && match l[j]? with
 | some o=>o.after.toList.all fun e=> !Region.binds .any e || (Nat.blt e.on j && mem e.on D)
 | none=>true
def IV (c:Ctx) (i:Nat) (js:List Nat) (l:List Oper):Bool:=match l[i]? with
 | some oi=>match F7 c oi with
  | some d=>Region.noSelect l.toArray && !mem d (oi.looksAt l.toArray) && (Pp i l js || (Pp i l (List.range i) && js.all fun j=>Nat.blt j i)) && ((List.range l.length).all fun k=>Nat.beq k i || match l[k]? with
    | some o=>(match o.dst with | some s=> !Nat.beq s d && (!mem s (oi.looksAt l.toArray) || Region.waitsFor .any l.toArray i k) | none=>true) && (!mem d (o.looksAt l.toArray) || Region.waitsFor .any l.toArray k i) && (!Region.waitsFor .any l.toArray k i || js.all fun j=>Region.waitsFor .any l.toArray k j)
    | none=>true) && oi.after.toList.all fun e=> !Region.binds .any e || !Nat.beq e.on i
  | none=>false
 | none=>false
def Di (o:Oper):Option Nat:=match o.op with | .store _ (.tmp s) _=>some s | _=>none
def Gw:List (Option Nat)→Bool
 | []=>true
 | none::_=>false
 | some k::r=>bif r.any (fun x=>match x with | some j=>Nat.beq j k | none=>false) then false else Gw r
def Qp (l:List Oper) (n:Nat):Bool:=Gw ((l.drop n).map Di) && (List.range l.length).all fun i=>Nat.blt i n || match l[i]? with
 | some o=>o.guard.isNone && o.dst.isNone && (o.looksAt l.toArray).all fun s=>(List.range n).any fun j=>match l[j]? with
  | some oj=>(match oj.dst with | some d=>Nat.beq d s | none=>false) && Region.waitsFor .any l.toArray i j
  | none=>false
 | none=>false
def NF (E:List (Nat×D)):Operand→D
 | .tmp s=>match look E s with | some d=>d.j5 | none=> .und
 | .const c=>uh c
 | _=> .und
def Nf (c:Ctx) (E:List (Nat×D)) (nw:List (Nat×Ob)):List Oper→Option (List (Nat×Ob))
 | []=>some []
 | o::r=>match o.op with
  | .store t (.tmp s) x=>match look E s,look nw s,look c.ty t with
   | some (.ref j [] 0),some ob,some i=>bif Nat.beq j s then (match ob.tid with
     | some tb=>match gy i.ty (NF E x) with
      | some y=>if ob.t.er=i.ty then (match Nf c E nw r with | some l=>some ((s,⟨some tb,i.ty,y⟩)::l) | none=>none) else none
      | none=>none
     | none=>none) else none
   | _,_,_=>none
  | _=>none
def newer (st:List (Nat×Ob)):List (Nat×Ob)→List (Nat×Ob)
 | []=>[]
 | (k,b)::r=>(k,match look st k with | some b'=>b' | none=>b)::newer st r
section
variable {R:Type}
def xI (c:Ctx):List Oper→St→(St→Option R)→Option R
 | [],S,k=>k S
 | o::r,S,k=>match o.dst with
  | some d=>bif mem d c.tk then match look S.env d with
    | some (.bO j p off)=>match S.ED j p off with
     | some ⟨.rw el t,y⟩=>match S.w9 j p off ⟨.sl t,(y:List t.den)⟩ with
      | some S'=>xI c r (S'.put d (.v (.rw el t) y)) k
      | none=>none
     | _=>xI c r S k
    | _=>xI c r S k
   else xI c r S k
  | none=>xI c r S k
end
end Go.Lf
/-
  Code: pieces in sequence, tests, blocks, loops; where ways meet, what goes on is said once.
-/
namespace Go.Lf
open Go
inductive Ex where | aM | ret | ext (i:Nat)
def lU:Code→List Nat
 | .region _ ops _=>ops.toList.filterMap (·.dst)
 | .seq a b=>lU a++lU b
 | .cond _ a b=>lU a++lU b
 | .block _ a=>lU a
 | .loop a=>lU a
 | .scope a=>lU a
 | _=>[]
structure Shape where
 keep:List Nat
 ref:List (Nat×D)
 var:List (Nat×Ty)
 obj:List (Nat×Nat×Ty)
 xV:List (Nat×Nat)
def Shape.og (s:Shape):List Ty:=s.var.map (·.2)++s.obj.map (·.2.2)
def xS:List Dir→List Dir→Bool
 | [],[]=>true
 | .i::r, .i::q=>xS r q
 | .l::r, .l::q=>xS r q
 | .r::r, .r::q=>xS r q
 | _,_=>false
def Me:List (Bool×Nat×List Dir×Nat)→List (Bool×Nat×List Dir×Nat)→Bool
 | [],[]=>true
 | (b,j,p,o)::r,(b',j',p',o')::q=>(bif b then b' else !b') && (Nat.beq j j' && (Nat.beq o o' && (xS p p' && Me r q)))
 | _,_=>false
def D.XG (js:List Nat):D→D→Bool
 | .ref j p o, .ref j' p' o'=>Nat.beq j j' && (Nat.beq o o' && xS p p')
 | .bO j p o, .bO j' p' o'=>(Nat.beq j j' && (Nat.beq o o' && xS p p')) && mem j js
 | .sJ j p o, .sJ j' p' o'=>Nat.beq j j' && (Nat.beq o o' && xS p p')
 | .zR g n l, .zR g' n' l'=>Nat.beq g g' && (Nat.beq n n' && Me l l')
 | _,_=>false
def Hy (js:List Nat) (S:St):List (Nat×D)→Bool
 | []=>true
 | (k,d)::r=>match look S.env k with
  | some d'=>bif d.XG js d' then Hy js S r else false
  | none=>false
def Iq (S:St):List (Nat×Nat)→Bool
 | []=>true
 | (k,j)::r=>match look S.env k with
  | some (.xV j' _ _ _ _ _ _)=>bif Nat.beq j j' then Iq S r else false
  | _=>false
def pO (S:St):List (Nat×Ty)→List Nat
 | []=>[]
 | (k, .mr _ _)::r=>match look S.env k with
  | some (.bO j _ _)=>j::pO S r
  | _=>pO S r
 | _::r=>pO S r
def ou:List (Nat×Ty)→List Nat
 | []=>[]
 | (k, .mr _ _)::r=>k::ou r
 | _::r=>ou r
def varOf (S:St) (k:Nat):(t:Ty)→Option t.den
 | .mr el a=>match look S.env k with
  | some (.bO j [] 0)=>match look S.az j with
   | some ⟨none,t',l⟩=>if h:t'= .mr el a then some (h▸l:(Ty.mr el a).den) else none
   | _=>none
  | _=>none
 | t=>match look S.env k with
  | some d=>bif t.top then gy t d else none
  | none=>none
def EP (S:St) (j:Nat) (tid:Nat) (t:Ty):Option t.den:=match look S.az j with
 | some ⟨some tid',t',x⟩=>bif Nat.beq tid' tid then coe t' t x else none
 | _=>none
def JN (S:St):(l:List (Nat×Nat×Ty))→Option (ai (l.map (·.2.2)))
 | []=>some ()
 | (j,tid,t)::r=>match EP S j tid t,JN S r with
  | some x,some y=>some (iH _ x y)
  | _,_=>none
def MI (S:St) (o:List (Nat×Nat×Ty)):(l:List (Nat×Ty))→Option (ai (l.map (·.2)++o.map (·.2.2)))
 | []=>JN S o
 | (k,t)::r=>match varOf S k t,MI S o r with
  | some x,some y=>some (iH _ x y)
  | _,_=>none
def Shape.ok (s:Shape):Bool:=nodupB (s.var.map (·.1)++s.ref.map (·.1)) && nodupB (ou s.var++s.obj.map (·.1))
def Shape.get (s:Shape) (S:St):Option (ai s.og):=bif s.ok && nodupB (pO S s.var++s.obj.map (·.1)) && Hy (s.obj.map (·.1)) S s.ref && Iq S s.xV then MI S s.obj s.var else none
def Km:(l:List (Nat×Nat×Ty))→ai (l.map (·.2.2))→List (Nat×Ob)
 | [],_=>[]
 | (j,tid,t)::r,z=>(j,⟨some tid,t,uO _ z⟩)::Km r (iD _ z)
def qF (o:List (Nat×Nat×Ty)):(l:List (Nat×Ty))→ai (l.map (·.2)++o.map (·.2.2))→St
 | [],z=>⟨[],Km o z⟩
 | (k, .mr el a)::r,z=>⟨(k, .bO k [] 0)::(qF o r (iD _ z)).env,(k,⟨none, .mr el a,uO _ z⟩)::(qF o r (iD _ z)).az⟩
 | (k,t)::r,z=>⟨(k, .v t (uO _ z))::(qF o r (iD _ z)).env,(qF o r (iD _ z)).az⟩
def D.still:D→Bool
 | .v t _=>decide (t=t.er)
 | .Ca _ _=>true
 | .fn _=>true
 | .uW=>true
 | .Es=>true
 | .RO=>true
 | _=>false
def Qu (al:List (Nat×Nat)) (k:Nat):D→Bool
 | .xV j _ _ _ _ _ _=>al.any fun p=>Nat.beq p.1 k && Nat.beq p.2 j
 | _=>false
def Dt (al:List (Nat×Nat)) (dead:List Nat):List Nat→List (Nat×D)→List (Nat×D)
 | [],_=>[]
 | k::r,e=>bif mem k dead then Dt al dead r e else match look e k with
  | some d=>bif d.still || Qu al k d then (k,d)::Dt al (k::dead) r e else Dt al dead r e
  | none=>Dt al dead r e
def Shape.mk' (s:Shape) (dead:List Nat) (S:St) (z:ai s.og):St:=
 ⟨Dt s.xV (dead++(s.var.map (·.1)++s.ref.map (·.1))) s.keep S.env++(s.ref++(qF s.obj s.var z).env),(qF s.obj s.var z).az⟩
inductive BM where
 | one (x:Ex) (s:Shape)
 | more (x:Ex) (s:Shape) (w:BM)
def BM.T:BM→Type
 | .one _ s=>ai s.og
 | .more _ s w=>ai s.og⊕w.T
def Ex.eq:Ex→Ex→Bool
 | .aM, .aM=>true
 | .ret, .ret=>true
 | .ext i, .ext j=>Nat.beq i j
 | _,_=>false
def BM.enc:(w:BM)→Ex→St→Option w.T
 | .one x s,y,S=>bif x.eq y then s.get S else none
 | .more x s w,y,S=>bif x.eq y then (match s.get S with | some z=>some (.inl z) | none=>none) else (match w.enc y S with | some z=>some (.inr z) | none=>none)
inductive qZ where
 | no
 | seq (a b:qZ)
 | cnd (a b:qZ)
 | draw (n:Nat)
 | jg (n:Nat)
 | Ps (n:Nat)
 | LB (n d s0:Nat)
 | draws (m n:Nat)   -- heads,of which the first m may come up behind the store at n
 | perm (s:List Nat) (a:qZ)   -- operations numbered anew
 | wt (i:Nat) (js:List Nat) (a:qZ)   -- a constant's assignment waits for these too
 | join (w:BM) (a:qZ)
 | loop (s:Shape) (w:BM) (a:qZ)
 | opn (j:Nat) (a:qZ)
 | ZV (j:Nat) (l:List (List Dir)) (a:qZ)   -- an object is let go ahead,behind these places' slices
 | ZX (j:Nat) (p:List Dir) (a:qZ)   -- the slice of an object's place is opened ahead
 | ZH (l:List Nat) (a:qZ)   -- pointers to blocks of their own,that these slots hold,become objects
def qZ.l:qZ→qZ | .seq a _=>a | .cnd a _=>a | a=>a
def qZ.r:qZ→qZ | .seq _ b=>b | .cnd _ b=>b | a=>a
noncomputable def iter {σ κ:Type} (B:σ→Option (σ⊕κ)):Nat→σ→Option κ
 | 0,_=>none
 | n+1,z=>(B z).bind fun | .inl z'=>iter B n z' | .inr k=>some k
open Classical in
noncomputable def Fu {σ κ:Type} (B:σ→Option (σ⊕κ)) (z:σ):Option κ:=
 if h: ∃ k n,iter B n z=some k then some (Classical.choose h) else none
noncomputable def Zw {σ κ:Type} (fu:Option Nat) (B:σ→Option (σ⊕κ)) (z:σ):Option κ:=match fu with
 | none=>Fu B z
 | some n=>iter B n z
def strips:List Oper→List (Nat×D)→List (Nat×D)
 | [],e=>e
 | o::r,e=>match o.dst with
  | some d=>match look e d with
   | some x=>strips r (aQ e d x.j5)
   | none=>strips r e
  | none=>strips r e
section
variable {R:Type}
def BM.dec (dead:List Nat) (S:St) (k:Ex→St→Option R):(w:BM)→w.T→Option R
 | .one x s,z=>k x (s.mk' dead S z)
 | .more x s w,z=>match z with
  | .inl z=>k x (s.mk' dead S z)
  | .inr z=>w.dec dead S k z
def EW (c:Ctx) (o:Oper):Bool:=match o.dst with
 | none=>false
 | some d=>bif kY c o then false else match look c.own d with
  | some (.mr _ _)=>false
  | some (.on _)=>false
  | _=>match o.op with | .move _=>true | .assign _=>true | .load _ _=>true | _=>false
def LQ (c:Ctx) (n:Nat) (ops:List Oper):Bool:=(iM.CO ops n || iM.G7 ops n) && (ops.take n).all fun o=>kY c o || EW c o
def Ph (c:Ctx) (n:Nat) (ops:List Oper) (O:List (Nat×Ob)):Bool:=zn ops n && I4 ops n && (O.all fun p=> !mem p.1 (qE c (ops.take n))) && (ops.take n).all (KS c)
def Qv (c:Ctx) (n:Nat) (ops:List Oper) (S:St) (k:St→Option R):Option R:=
 bif Ph c n ops S.az then uF c ops (qE c (ops.take n)) S.az (ops.take n) (jU (qE c (ops.take n)) (strips (ops.take n) S.env)) fun E nw=>xI c (ops.take n) ⟨E,nw++S.az⟩ fun S'=>opsE c ops (ops.drop n) S' k
 else none
def Sg (s s0:Nat) (o:Oper):Bool:=match o.dst,o.op with
 | some d, .move (.tmp t)=>Nat.beq d s && Nat.beq t s0 && o.guard.isNone
 | _,_=>false
def hvB (c:Ctx) (d s:Nat) (ops:Array Oper) (o:Oper):Bool:=match o.dst with
 | some k=>Nat.beq k d && (o.guard.isNone && (mem s (o.looksAt ops) && (!qB c o && !Dc o)))
 | none=>false
def JI (c:Ctx) (n d s s0:Nat) (ops:List Oper) (O:List (Nat×Ob)):Bool:=zn ops n && I4 ops n && (O.all fun p=> !mem p.1 (qE c (ops.take n))) && ((ops.take n).all fun o=>match o.dst with
  | some k=> !Nat.beq k s0 && ((!Nat.beq k s || Sg s s0 o) && (hvB c d s ops.toArray o || Option.isNone (Ii c k)))
  | none=>true) && ((ops.take n).any (Sg s s0) && ((ops.take n).any (hvB c d s ops.toArray) && (List.range n).all fun i=>match ops[i]? with | some o=> !hvB c d s ops.toArray o || (ops.take i).any (Sg s s0) | none=>true))
def KA (c:Ctx) (n d s0:Nat) (ops:List Oper) (S:St) (k:St→Option R):Option R:=match Ii c d,look S.env s0 with
 | some (s,el,t),some (.v (.rw el' t') _)=>if t'=t then bif Nat.beq el' el then (bif JI c n d s s0 ops S.az then uF c ops (qE c (ops.take n)) S.az (ops.take n) (jU (qE c (ops.take n)) (strips (ops.take n) (S.strip (.tmp s0)).env)) fun E nw=>xI c (ops.take n) ⟨E,nw++S.az⟩ fun S'=>opsE c ops (ops.drop n) S' k
  else none) else none else none
 | _,_=>none
def J9 (c:Ctx) (n:Nat) (ops:List Oper) (O:List (Nat×Ob)):Bool:=zn ops ops.length && Nat.ble n ops.length && I4 ops n && Qp ops n && (O.all fun p=> !mem p.1 (qE c (ops.take n))) && (ops.take n).all (KS c)
def Kr (c:Ctx) (n:Nat) (ops:List Oper) (S:St) (k:St→Option R):Option R:=
 bif J9 c n ops S.az then uF c ops (qE c (ops.take n)) S.az (ops.take n) (jU (qE c (ops.take n)) (strips (ops.take n) S.env)) fun E nw=>match Nf c E nw (ops.drop n) with
  | some st=>xI c (ops.take n) ⟨E,newer st nw++S.az⟩ k
  | none=>none
 else none
def GR (m:Nat) (l:List Oper) (n:Nat):Bool:=
 let ops:=l.toArray
 Region.noSelect ops && decide (n+1≤ops.size)
 && ((List.range ops.size).all fun i=>match ops[i]? with | some o=>o.after.all fun e=> !Region.binds .any e || decide (e.on<i) | none=>true)
 && ((List.range n).all fun i=>match ops[i]? with
   | some oi=>(List.range n).all fun j=>match ops[j]? with
    | some oj=>decide (i=j) || (match oj.dst with
     | some s=>decide (oi.dst≠some s) && (!(oi.looksAt ops).contains s || (decide (j<i) && Region.waitsFor .any ops i j) || (decide (i<j) && Region.waitsFor .any ops j i))
     | none=>true)
    | none=>true
   | none=>true)
 && Region.chainB .any ops n && (decide (n+1=ops.size) || (Region.sinkB .any ops (n+1) && Region.chainB .any ops (n+1)))
 && (match ops[n]? with
   | some ob=>ob.guard.isNone && (ob.dst.isNone && (List.range n).all fun j=>match ops[j]? with
     | some oj=>(Nat.blt j m || iM.uH ops n n j) && (match oj.dst with
      | some s=> !(ob.looksAt ops).contains s || Region.waitsFor .any ops n j
      | none=>true)
     | none=>true)
   | none=>false)
def JR (c:Ctx) (o:Oper) (S:St):Option St:=match o.dst,o.op with
 | none, .store t x z=>match S.get x,look c.ty t with
  | .ref j p off,some i=>match gy i.ty (S.get z),S.ED j p off with
   | some y,some _=>S.w9 j p off ⟨i.ty,y⟩
   | _,_=>none
  | _,_=>none
 | _,_=>none
def NS (c:Ctx) (ops:List Oper) (n:Nat) (S:St):Option St:=match ops[n]? with
 | some o=>JR c o S
 | none=>none
def JH (c:Ctx) (m n:Nat) (ops:List Oper):Bool:=GR m ops n && (Nat.ble m n && ((ops.take n).all (kY c) && (ops.take m).all iM.oG))
def KF (c:Ctx) (m n:Nat) (ops:List Oper) (S:St) (k:St→Option R):Option R:=
 bif JH c m n ops then opsE c ops (ops.take m) ⟨strips (ops.take n) S.env,[]⟩ fun S1=>match S1.az with
  | []=>opsE c ops ((ops.take n).drop m) ⟨S1.env,S.az⟩ fun S2=>match NS c ops n S2 with
   | some S3=>opsE c ops (ops.drop (n+1)) S3 k
   | none=>none
  | _::_=>none
 else none
def Ji (c:Ctx) (ops:List Oper) (an:qZ) (S:St) (k:Ex→St→Option R):Option R:=match an with
 | .draw n=>bif LQ c n ops then opsE c ops ops ⟨strips (ops.take n) S.env,S.az⟩ (k .aM) else none
 | .jg n=>Qv c n ops S (k .aM)
 | .Ps n=>Kr c n ops S (k .aM)
 | .LB n d s0=>KA c n d s0 ops S (k .aM)
 | .draws m n=>KF c m n ops S (k .aM)
 | _=>none
def CV:List Oper→(List Oper→Option R)→Option R
 | [],k=>k []
 | ⟨d,op,ty,pos,af,gd⟩::r,k=>CV r fun r'=>k (⟨d,op,ty,pos,af,gd⟩::r')
theorem Ar: ∀ (l:List Oper) (k:List Oper→Option R),CV l k=k l
 | [],_=>rfl
 | ⟨_,_,_,_,_,_⟩::r,k=>by rw [CV,Ar r]
def Hz (c:Ctx) (ops:List Oper) (an:qZ) (S:St) (k:Ex→St→Option R):Option R:=match an with
 | .wt i js a=>bif IV c i js ops then CV (fJ i js ops) fun l=>Hz c l a S k else none
 | a=>Ji c ops a S k
def IE (c:Ctx) (ops:List Oper) (dr:Bool) (an:qZ) (S:St) (k:Ex→St→Option R):Option R:=
 bif dr then match an with
  | .perm s a=>bif Jq s ops then CV (oU s ops) (fun l=>Hz c l a S k) else none
  | a=>Hz c ops a S k
 else opsE c ops ops S (k .aM)
def K6 (S:St) (j:Nat) (p:List Dir):Option St:=match look S.az j with
 | some ob=>match S.open_ j p (aH ob.t p) with
  | some (_,S')=>some S'
  | none=>none
 | none=>none
def GC (S:St) (j:Nat):List (List Dir)→Option St
 | []=>some S
 | p::r=>match K6 S j p with | some S'=>GC S' j r | none=>none
def Tm (S:St) (j:Nat) (l:List (List Dir)):Option St:=match GC S j l with | some S'=>YP S' j | none=>none
def SN (c:Ctx):List Nat→St→(St→Option R)→Option R
 | [],S,k=>k S
 | s::l,S,k=>match look S.env s with
  | some (.v (.bo id t) y)=>(y:Option t.den).bind fun x=>xw c s ⟨some id,t,x⟩ (.ref s [] 0) (S.strip (.tmp s)) fun S'=>SN c l S' k
  | _=>none
def Um (c:Ctx) (ops:List Oper) (dr:Bool) (an:qZ) (S:St) (k:Ex→St→Option R):Option R:=match an with
 | .opn j a=>match O5 S j with
  | some S'=>IE c ops dr a S' k
  | none=>none
 | .ZV j l a=>match Tm S j l with
  | some S'=>IE c ops dr a S' k
  | none=>none
 | .ZX j p a=>match K6 S j p with
  | some S'=>IE c ops dr a S' k
  | none=>none
 | .ZH l a=>SN c l S fun S'=>IE c ops dr a S' k
 | a=>IE c ops dr a S k
def Tw (S:St) (x:Operand) (f g:Option R):Option R:=match S.get x with
 | .v .bool b=>bif b then f else g
 | _=>none
def Xr (f:St→Option R) (k:Ex→St→Option R):Ex→St→Option R
 | .aM,S=>f S
 | x,S=>k x S
def WN (i:Nat) (k:Ex→St→Option R):Ex→St→Option R
 | .ext j,S=>bif Nat.beq j i then k .aM S else k (.ext j) S
 | x,S=>k x S
def IL (s:Shape) (w:BM):Ex→St→Option (ai s.og⊕w.T)
 | .aM,S=>match s.get S with | some z=>some (.inl z) | none=>none
 | x,S=>match w.enc x S with | some z=>some (.inr z) | none=>none
def wrap (dead:List Nat) (S:St) (an:qZ) (base:(R:Type)→qZ→(Ex→St→Option R)→Option R) (k:Ex→St→Option R):Option R:=match an with
 | .join w a=>(base w.T a w.enc).bind fun z=>w.dec dead S k z
 | a=>base R a k
end
noncomputable def jV (c:Ctx):Code→qZ→(R:Type)→St→(Ex→St→Option R)→Option R
 | .skip,_,_,S,k=>k .aM S
 | .exit i,_,_,S,k=>k (.ext i) S
 | .ret,_,_,S,k=>k .ret S
 | .label _,_,_,S,k=>k .aM S
 | .region i ops dr,an,_,S,k=>wrap (lU (.region i ops dr)) S an (fun _ a k=>Um c ops.toList dr a S k) k
 | .seq a b,an,_,S,k=>wrap (lU (.seq a b)) S an (fun R an k=>jV c a an.l R S (Xr (fun S'=>jV c b an.r R S' k) k)) k
 | .cond x a b,an,_,S,k=>wrap (lU (.cond x a b)) S an (fun R an k=>Tw S x (jV c a an.l R S k) (jV c b an.r R S k)) k
 | .block i a,an,_,S,k=>wrap (lU (.block i a)) S an (fun R an k=>jV c a an R S (WN i k)) k
 | .scope a,an,_,S,k=>wrap (lU (.scope a)) S an (fun R an k=>jV c a an R S k) k
 | .loop a, .loop s w an,_,S,k=>match s.get S with
  | none=>none
  | some z0=>(Zw c.fu (fun z:ai s.og=>jV c a an (ai s.og⊕w.T) (s.mk' (lU (.loop a)) S z) (IL s w)) z0).bind fun z=>w.dec (lU (.loop a)) S k z
 | _,_,_,_,_=>none
def gF:Nat→(ps:List fq)→ai (ps.map fq.ty)→St
 | _,[],_=>⟨[],[]⟩
 | i, .val t::r,z=>⟨(i, .v t (uO _ z))::(gF (i+1) r (iD _ z)).env,(gF (i+1) r (iD _ z)).az⟩
 | i, .Bv g::r,z=>⟨(i, .fn g)::(gF (i+1) r (iD _ z)).env,(gF (i+1) r (iD _ z)).az⟩
 | i, .obj tid t _ p m::r,z=>⟨(i,m.d i p (aH t p))::(gF (i+1) r (iD _ z)).env,(i,⟨some tid,t,uO _ z⟩)::(gF (i+1) r (iD _ z)).az⟩
def En (dead:List Nat) (S:St):Nat→(ps:List fq)→Option (ai (outs ps))
 | _,[]=>some ()
 | i, .val _::r=>En dead S (i+1) r
 | i, .Bv _::r=>En dead S (i+1) r
 | i, .obj tid _ t' _ m::r=>match look S.env i with
  | some d=>match m.of d with
   | some (j,_,_)=>bif Nat.beq j i then bif mem i dead then none else match EP S i tid t',En dead S (i+1) r with
    | some x,some y=>some (iH _ x y)
    | _,_=>none
    else none
   | none=>none
  | none=>none
def NI (dead:List Nat) (S:St) (ps:List fq):(l:List Ty)→List D→Option (ai (l++outs ps))
 | [],[]=>En dead S 0 ps
 | t::l,d::ds=>match gy t d,NI dead S ps l ds with
  | some x,some y=>some (iH _ x y)
  | _,_=>none
 | _,_=>none
def Pg (c:Ctx) (S:St) (take:Bool) (s ty:Nat):Option (D×St):=match S.get (.tmp s) with
 | .ref j p off=>match S.ED j p off,look c.ty ty with
  | some ⟨.mr el t,_⟩,some i=>if (Ty.mr el t).er=i.ty then match S.open_ j p off with | some (y,S')=>some (.v y.1 y.2,S') | none=>none else none
  | some ⟨t,y⟩,some i=>if t.er=i.ty then bif t.top then match coe t t.er y with
    | some y'=>match S.w9 j p off ⟨t.er,y'⟩ with
     | some S'=>bif take then some (.v t y,S') else some (.v t.er y',S)
     | none=>none
    | none=>none
    else none
   else none
  | _,_=>none
 | _=>none
def Ir (c:Ctx) (S:St):List Ty→List ResultVar→Option (List D×St)
 | [],[]=>some ([],S)
 | t::ts, .tmp s::r=>match S.QZ t (.tmp s) with
  | some (d,S1)=>match Ir c S1 ts r with | some (ds,S2)=>some (d::ds,S2) | none=>none
  | none=>none
 | t::ts, .cell s ty::r=>match Pg c S (decide (t≠t.er)) s ty with
  | some (d,S1)=>match Ir c S1 ts r with | some (ds,S2)=>some (d::ds,S2) | none=>none
  | none=>none
 | _,_=>none
def X5 (p:List Dir) (o sz:Nat):D→Option (Option Nat)
 | .Es=>some none
 | .xV j p' o' m sz' [] 0=>bif Nat.beq j 0 && Nat.beq o o' && Nat.beq sz sz' && xS p p' then some m else none
 | _=>none
noncomputable def Zn (c:Ctx) (code:Code) (an:qZ) (tid:Nat) (t:Ty) (p0 p:List Dir) (o sz:Nat) (slot:Nat) (z:t.den):Option (Option Nat×t.den):=
 jV c code an _ (gF 0 [.obj tid t t p0] z) fun x S=>match x with
  | .ext _=>none
  | _=>match X5 p o sz (S.get (.tmp slot)),En (lU code) S 0 [.obj tid t t p0] with
   | some m,some y=>some (m,y)
   | _,_=>none
noncomputable def QH (c:Ctx) (code:Code) (an:qZ) (ps:List fq) (rs:List Ty) (slots:List ResultVar) (z:ai (ps.map fq.ty)):Option (ai (rs++outs ps)):=
 jV c code an _ (gF 0 ps z) fun x S=>match x with
  | .ext _=>none
  | _=>match Ir c S rs slots with
   | some (ds,S1)=>NI (lU code) S1 ps rs ds
   | none=>none
end Go.Lf
/-
  Where ways meet: a state is read into a value, and laid out again.
-/
namespace Go.Lf
open Go Go.iM
section
variable {P:Program} {N:Nat} {C:Cx} {G:World→Prop} {c:Ctx} {S:St} {Rt:Type} {k:St→Option Rt} {r:Rt} {a:Act} {w:World}
variable {W:d_} {e:Env} {eh oh:List Chunk}
theorem sM: ∀ {l:List Nat},nodupB l=true→l.Nodup
 | [],_=>by simp
 | k::r,h=>by
  unfold nodupB at h
  cases hm:mem k r with
  | true=>rw [hm] at h;cases h
  | false=>
   rw [hm] at h
   exact List.nodup_cons.2 ⟨uu hm,sM h⟩
theorem qY: ∀ {p q:List Dir},xS p q=true→p=q
 | [],[],_=>rfl
 | .i::r, .i::q,h=>by rw [qY (p:=r) (q:=q) h]
 | .l::r, .l::q,h=>by rw [qY (p:=r) (q:=q) h]
 | .r::r, .r::q,h=>by rw [qY (p:=r) (q:=q) h]
 | [],_::_,h=>by cases h
 | .i::_,[],h=>by cases h
 | .l::_,[],h=>by cases h
 | .r::_,[],h=>by cases h
 | .i::_, .l::_,h=>by cases h
 | .i::_, .r::_,h=>by cases h
 | .l::_, .i::_,h=>by cases h
 | .l::_, .r::_,h=>by cases h
 | .r::_, .i::_,h=>by cases h
 | .r::_, .l::_,h=>by cases h
theorem ay.keys {l:List (Nat×D)} {hs:List Chunk} (h:ay W l e hs):l.map (·.1)=e.map (·.1):=by
 induction h with
 | nil=>rfl
 | cons _ _ ih=>simp [ih]
theorem ay.append {l l':List (Nat×D)} {e e':Env} {hs hs':List Chunk} (h:ay W l e hs) (h':ay W l' e' hs'):ay W (l++l') (e++e') (hs++hs'):=by
 induction h with
 | nil=>exact h'
 | cons h1 _ ih=>rw [List.append_assoc];exact .cons h1 ih
theorem ay.UI {l:List (Nat×D)} {hs:List Chunk} (h:ay W l e hs) (nd:(e.map (·.1)).Nodup): ∃ f:Nat→List Chunk,(∀ k d,Lf.look l k=some d→ ∃ v,rW e k v∧DR W d v (f k))∧hs=(l.map (·.1)).flatMap f:=by
 induction h with
 | nil=>exact ⟨fun _=>[],fun k d hk=>(by cases hk),rfl⟩
 | @cons j d v h hs l e h1 h2 ih=>
  simp only [List.map_cons,List.nodup_cons] at nd
  obtain ⟨f,q1,q2⟩:=ih nd.2
  have hj:j∉l.map (·.1):=by rw [h2.keys];exact nd.1
  refine ⟨upd f j h,fun k d' hk=>?_,?_⟩
  ·rw [au] at hk
   split at hk
   ·rename_i he
    subst he
    simp only [Option.some.injEq] at hk
    subst hk
    exact ⟨v, .here,by rw [aR];exact h1⟩
   ·rename_i hne
    obtain ⟨v',g1,g2⟩:=q1 k d' hk
    exact ⟨v', .there g1,by unfold upd;rw [if_neg fun e=>hne e.symm];exact g2⟩
  ·simp only [List.map_cons,List.flatMap_cons,aR]
   rw [q2]
   congr 1
   exact nW hj
theorem ay.other {l:List (Nat×D)} {hs:List Chunk} (h:ay W l e hs) {j:Nat} {cs:List Value} (hl: ∀ p∈l,(∃ t x,p.2= .v t x)∨(∃ i,i≠j∧p.2= .bO i [] 0)):ay ⟨W.φ,W.aA,upd W.hd j cs⟩ l e hs:=by
 induction h with
 | nil=>exact .nil
 | @cons k d v h hs l e h1 _ ih=>
  refine .cons ?_ (ih fun p hp=>hl p (List.mem_cons_of_mem _ hp))
  rcases hl _ List.mem_cons_self with ⟨t,x,hd⟩ | ⟨i,hi,hd⟩
  ·have hd:d= .v t x:=hd
   subst hd;exact h1
  ·have hd:d= .bO i [] 0:=hd
   subst hd
   exact ⟨by show (upd W.hd j cs i)[0]? =some v;unfold upd;rw [if_neg hi];exact h1.1,h1.2⟩
theorem nO.other' {l:List (Nat×Ob)} {hs:List Chunk} (h:nO W l hs) {j:Nat} (hj:j∉l.map (·.1)) (cs:List Value):nO ⟨W.φ,W.aA,upd W.hd j cs⟩ l hs:=by
 have h1:=h.other hj (W.aA j) cs
 rwa [upd_same] at h1
def Ty.Qs:Ty→Bool | .mr _ _=>true | _=>false
theorem Oz {o:List (Nat×Nat×Ty)} {k:Nat} {t:Ty} {l:List (Nat×Ty)} {z:ai (((k,t)::l).map (·.2)++o.map (·.2.2))} (ht:t.Qs=false):
  qF o ((k,t)::l) z=⟨(k, .v t (uO (a:=t) (l.map (·.2)++o.map (·.2.2)) z))::(qF o l (iD (a:=t) _ z)).env,(qF o l (iD (a:=t) _ z)).az⟩:=by
 cases t<;>first | rfl | cases ht
theorem RJ {k:Nat} {t:Ty} {x:t.den} (ht:t.Qs=false) (h:varOf S k t=some x): ∃ d,look S.env k=some d∧t.top=true∧gy t d=some x:=by
 have:varOf S k t=match look S.env k with | some d=>bif t.top then gy t d else none | none=>none:=by cases t<;>first | rfl | cases ht
 rw [this] at h
 split at h
 ·rename_i d hd
  cases hb:t.top with
  | false=>rw [hb] at h;cases h
  | true=>rw [hb] at h;exact ⟨d,hd,rfl,h⟩
 ·cases h
theorem K_ {k:Nat} {t:Ty} {l:List (Nat×Ty)} (ht:t.Qs=false):pO S ((k,t)::l)=pO S l∧ou ((k,t)::l)=ou l:=by
 cases t<;>first | exact ⟨rfl,rfl⟩ | cases ht
theorem E9: ∀ (o:List (Nat×Nat×Ty)) (z:ai (o.map (·.2.2))),(Km o z).map (·.1)=o.map (·.1)
 | [],_=>rfl
 | (j,tid,t)::r,z=>by simp only [Km,List.map_cons];rw [E9 r]
theorem sZ {o:List (Nat×Nat×Ty)}: ∀ (l:List (Nat×Ty)) (z:ai (l.map (·.2)++o.map (·.2.2))),(qF o l z).env.map (·.1)=l.map (·.1)∧(qF o l z).az.map (·.1)=ou l++o.map (·.1)∧
  ∀ p∈(qF o l z).env,(∃ t x,p.2= .v t x)∨(∃ i,i∈ou l∧p.2= .bO i [] 0)
 | [],z=>⟨rfl,E9 _ _,fun p hp=>by cases hp⟩
 | (k,t)::r,z=>by
  cases ht:t.Qs with
  | true=>
   cases t<;>first | cases ht | skip
   rename_i el a
   obtain ⟨h1,h2,h3⟩:=sZ r (iD (a:= .mr el a) _ z)
   refine ⟨?_,?_,?_⟩
   ·simp only [qF,List.map_cons];rw [h1]
   ·simp only [qF,ou,List.map_cons,List.cons_append];rw [h2]
   ·intro p hp
    rcases List.mem_cons.1 hp with rfl | hp
    ·exact .inr ⟨k,List.mem_cons_self,rfl⟩
    ·exact (h3 p hp).imp id fun ⟨i,hi,he⟩=>⟨i,List.mem_cons_of_mem _ hi,he⟩
  | false=>
   obtain ⟨h1,h2,h3⟩:=sZ r (iD (a:=t) _ z)
   rw [Oz ht,(K_ (S:=⟨[],[]⟩) (k:=k) (l:=r) ht).2]
   refine ⟨by simp only [List.map_cons];rw [h1],h2,fun p hp=>?_⟩
   rcases List.mem_cons.1 hp with rfl | hp
   ·exact .inl ⟨_,_,rfl⟩
   ·exact h3 p hp
theorem Mc {g:Nat→List Chunk} (hO: ∀ j ob,look S.az j=some ob→xn W j ob (g j)): ∀ (o:List (Nat×Nat×Ty)) (z:ai (o.map (·.2.2))),JN S o=some z→ ∃ oh,nO W (Km o z) oh∧Sub ((o.map (·.1)).flatMap g) oh
 | [],z,_=>⟨[], .nil,Sub.refl _⟩
 | (j,tid,t)::r,z,h=>by
  unfold JN at h
  split at h
  case h_2=>cases h
  case h_1 x y hx hy=>
  injection h with h
  subst h
  obtain ⟨oh,q1,q2⟩:=Mc hO r y hy
  unfold EP at hx
  split at hx
  case h_2=>cases hx
  case h_1 tid' t' x' hob=>
  cases hb:Nat.beq tid' tid with
  | false=>rw [hb] at hx;cases hx
  | true=>
  rw [hb] at hx
  have hb:=Nat.eq_of_beq_eq_true hb
  subst hb
  obtain ⟨h0,g1,g2⟩:=hO _ _ hob
  obtain ⟨h0',g3,g4⟩:=eP hx g1
  have g2:g j=blk (W.aA j) tid' (W.hd j)::h0:=g2
  refine ⟨(blk (W.aA j) tid' (W.hd j)::h0')++oh,?_,?_⟩
  ·unfold Km
   refine .cons ⟨h0',?_,rfl⟩ ?_
   ·show Rp W.φ t (uO (a:=t) (r.map (·.2.2)) (iH (a:=t) _ x y)) _ _
    rw [yO];exact g3
   ·show nO W (Km r (iD (a:=t) (r.map (·.2.2)) (iH (a:=t) _ x y))) oh
    rw [rF];exact q1
  ·simp only [List.map_cons,List.flatMap_cons]
   rw [g2]
   exact Sub.app (Sub.cons g4) q2
theorem GD {f g:Nat→List Chunk} (hE: ∀ k d,look S.env k=some d→ ∃ v,rW e k v∧DR W d v (f k)) (hO: ∀ j ob,look S.az j=some ob→xn W j ob (g j)) {o:List (Nat×Nat×Ty)}:
  ∀ (l:List (Nat×Ty)) (z:ai (l.map (·.2)++o.map (·.2.2))),MI S o l=some z→(ou l++o.map (·.1)).Nodup→
   ∃ hd' ev eh oh,ay ⟨W.φ,W.aA,hd'⟩ (qF o l z).env ev eh∧(∀ p∈ev,rW e p.1 p.2)∧nO ⟨W.φ,W.aA,hd'⟩ (qF o l z).az oh∧Sub ((l.map (·.1)).flatMap f++(pO S l++o.map (·.1)).flatMap g) (eh++oh)∧
    (∀ j∈l.map (·.1),j∈S.env.map (·.1))∧(∀ j∈pO S l,j∈S.az.map (·.1))∧ ∀ j,j∉ou l→hd' j=W.hd j
 | [],z,h,_=>by
  obtain ⟨oh,q1,q2⟩:=Mc hO o z h
  exact ⟨W.hd,[],[],oh, .nil,(fun p hp=>by cases hp),q1,q2,by simp,by simp [pO],fun _ _=>rfl⟩
 | (k,t)::l,z,h,nd=>by
  unfold MI at h
  split at h
  case h_2=>cases h
  case h_1 x y hx hy=>
  injection h with h
  subst h
  cases ht:t.Qs with
  | false=>
   have hm:=K_ (S:=S) (k:=k) (l:=l) ht
   rw [hm.2] at nd
   obtain ⟨hd',ev,eh,oh,q1,q2,q3,q4,q5,q6,q7⟩:=GD hE hO l y hy nd
   obtain ⟨d,g1,g2,g3⟩:=RJ ht hx
   obtain ⟨v,g4,g5⟩:=hE _ _ g1
   obtain ⟨cs,h',rfl,g6,g7⟩:=Cg g3 g5
   rw [Oz ht,hm.1]
   refine ⟨hd',(k,sv t cs)::ev,h'++eh,oh,?_,?_,?_,?_,?_,q6,by rw [hm.2];exact q7⟩
   ·refine .cons ⟨cs,g2,rfl,?_⟩ ?_
    ·show Rp W.φ t (uO (a:=t) (l.map (·.2)++o.map (·.2.2)) (iH (a:=t) _ x y)) _ _
     rw [yO];exact g6
    ·show ay _ (qF o l (iD (a:=t) (l.map (·.2)++o.map (·.2.2)) (iH (a:=t) _ x y))).env _ _
     rw [rF];exact q1
   ·intro p hp
    rcases List.mem_cons.1 hp with rfl | hp
    ·exact g4
    ·exact q2 p hp
   ·show nO _ (qF o l (iD (a:=t) (l.map (·.2)++o.map (·.2.2)) (iH (a:=t) _ x y))).az _
    rw [rF];exact q3
   ·simp only [List.map_cons,List.flatMap_cons]
    rw [List.append_assoc,List.append_assoc]
    exact Sub.app g7 q4
   ·intro j hj
    rcases List.mem_cons.1 hj with rfl | hj
    ·exact jF g1
    ·exact q5 j hj
  | true=>
   cases t<;>first | cases ht | skip
   rename_i el a _
   simp only [ou,List.cons_append,List.nodup_cons] at nd
   obtain ⟨hd',ev,eh,oh,q1,q2,q3,q4,q5,q6,q7⟩:=GD hE hO l y hy nd.2
   replace hx:(match look S.env k with
    | some (.bO j [] 0)=>match look S.az j with
     | some ⟨none,t',l⟩=>if h:t'= .mr el a then some (h▸l:(Ty.mr el a).den) else none
     | _=>none
    | _=>none)=some x:=hx
   split at hx
   case h_2=>cases hx
   case h_1 j hlk=>
   split at hx
   case h_2=>cases hx
   case h_1 t' l' hob=>
   split at hx
   case isFalse=>cases hx
   case isTrue he=>
   subst he
   simp only [Option.some.injEq] at hx
   subst hx
   obtain ⟨v,g4,g5⟩:=hE _ _ hlk
   obtain ⟨h0,g6,g7⟩:=hO _ _ hob
   have g7:g j=h0:=g7
   obtain ⟨k1,k2,k3⟩:=sZ (o:=o) l y
   have hfk:f k=[]:=g5.2
   refine ⟨upd hd' k (W.hd j),(k,v)::ev,[]++eh,h0++oh,?_,?_,?_,?_,?_,?_,fun i hi=>?_⟩
   ·unfold qF
    refine .cons ⟨by show (upd hd' k (W.hd j) k)[0]? =some v;rw [aR];exact g5.1,rfl⟩ ?_
    show ay _ (qF o l (iD (a:= .mr el a) (l.map (·.2)++o.map (·.2.2)) (iH (a:= .mr el a) _ _ y))).env _ _
    rw [rF]
    refine ay.other (W:=⟨W.φ,W.aA,hd'⟩) q1 fun p hp=>?_
    exact (k3 p hp).imp id fun ⟨i,hi,he⟩=>⟨i,fun e=>nd.1 (e▸List.mem_append_left _ hi),he⟩
   ·intro p hp
    rcases List.mem_cons.1 hp with rfl | hp
    ·exact g4
    ·exact q2 p hp
   ·unfold qF
    refine .cons ⟨h0,?_,rfl⟩ ?_
    ·show Rp W.φ (.mr el a) (uO (a:= .mr el a) (l.map (·.2)++o.map (·.2.2)) (iH (a:= .mr el a) _ _ y)) (upd hd' k (W.hd j) k) _
     rw [yO,aR];exact g6
    ·show nO _ (qF o l (iD (a:= .mr el a) (l.map (·.2)++o.map (·.2.2)) (iH (a:= .mr el a) _ _ y))).az _
     rw [rF]
     exact nO.other' (W:=⟨W.φ,W.aA,hd'⟩) q3 (by rw [k2];exact nd.1) _
   ·have hmr:pO S ((k, .mr el a)::l)=j::pO S l:=by simp only [pO,hlk]
    rw [hmr]
    simp only [List.map_cons,List.flatMap_cons,List.cons_append,List.nil_append]
    rw [hfk,g7,List.nil_append]
    refine (Sub.perm (List.perm_append_comm_assoc _ _ _)).trans ?_
    refine (Sub.app (Sub.refl h0) q4).trans (Sub.perm (List.perm_append_comm_assoc _ _ _))
   ·intro i hi
    rcases List.mem_cons.1 hi with rfl | hi
    ·exact jF hlk
    ·exact q5 i hi
   ·have hmr:pO S ((k, .mr el a)::l)=j::pO S l:=by simp only [pO,hlk]
    rw [hmr]
    intro i hi
    rcases List.mem_cons.1 hi with rfl | hi
    ·exact jF hob
    ·exact q6 i hi
   ·simp only [ou,List.mem_cons,not_or] at hi
    unfold upd
    rw [if_neg hi.1]
    exact q7 i hi.2
theorem EO: ∀ (o:List (Nat×Nat×Ty)) (z:ai (o.map (·.2.2))),JN S o=some z→ ∀ j∈o.map (·.1),j∈S.az.map (·.1)
 | [],z,_=>by simp
 | (j,tid,t)::r,z,h=>by
  unfold JN at h
  split at h
  case h_2=>cases h
  case h_1 x y hx hy=>
  intro i hi
  rcases List.mem_cons.1 hi with rfl | hi
  ·unfold EP at hx
   split at hx
   case h_2=>cases hx
   case h_1 hob=>exact jF hob
  ·exact EO r y hy i hi
theorem Dl {o:List (Nat×Nat×Ty)}: ∀ (l:List (Nat×Ty)) (z:ai (l.map (·.2)++o.map (·.2.2))),MI S o l=some z→ ∃ z',JN S o=some z'
 | [],z,h=>⟨z,h⟩
 | (k,t)::l,z,h=>by
  unfold MI at h
  split at h
  case h_2=>cases h
  case h_1 x y hx hy=>exact Dl l y hy
theorem Oe {W':d_} {d:D} {v:Value} {h:List Chunk} (hs:d.still=true) (hle:W.φ.le W'.φ) (hd:DR W d v h):DR W' d v []:=by
 cases d with
 | v t x=>
  obtain ⟨cs,h1,h2,h3⟩:=hd
  have ht:t=t.er:=of_decide_eq_true hs
  have:=Rp.aP ht h3
  subst this
  exact ⟨cs,h1,h2,h3.mono hle⟩
 | Ca t x=>obtain ⟨ad,cs,q1,q2,q3,_⟩:=hd;exact ⟨ad,cs,q1,q2.mono hle,q3.mono hle,rfl⟩
 | fn f=>exact ⟨hd.1,rfl⟩
 | uW=>exact ⟨hd.1,rfl⟩
 | Es=>exact ⟨hd.1,rfl⟩
 | RO=>exact ⟨hd.1,rfl⟩
 | _=>cases hs
theorem wC {al:List (Nat×Nat)} {D0:List Nat} {W':d_} {E:List (Nat×D)} {e0:Env} {eh0:List Chunk} (hE:ay W E e0 eh0) (hle:W.φ.le W'.φ) (hA: ∀ k j p o m z q qo v h,(k,j)∈al→k∉D0→rW e0 k v→DR W (.xV j p o m z q qo) v h→DR W' (.xV j p o m z q qo) v []): ∀ (ks dead:List Nat),(∀ k∈D0,k∈dead)→ ∃ ek,ay W' (Dt al dead ks E) ek []∧(∀ p∈ek,rW e0 p.1 p.2∧p.1∉dead)∧(ek.map (·.1)).Nodup
 | [],dead,_=>⟨[], .nil,by simp,by simp⟩
 | k::ks,dead,hD=>by
  unfold Dt
  cases hm:mem k dead with
  | true=>exact wC hE hle hA ks dead hD
  | false=>
   simp only [cond_false]
   cases hl:look E k with
   | none=>exact wC hE hle hA ks dead hD
   | some d=>
    simp only
    cases hs:(d.still || Qu al k d) with
    | false=>exact wC hE hle hA ks dead hD
    | true=>
     obtain ⟨ek,q1,q2,q3⟩:=wC hE hle hA ks (k::dead) fun i hi=>List.mem_cons_of_mem _ (hD i hi)
     obtain ⟨v,h,_,g1,g2,_⟩:=hE.look hl
     have hdr:DR W' d v []:=by
      cases hst:d.still with
      | true=>exact Oe hst hle g2
      | false=>
       rw [hst,Bool.false_or] at hs
       unfold Qu at hs
       split at hs
       case h_2=>cases hs
       case h_1 j p o m z q qo=>
       simp only [List.any_eq_true,Bool.and_eq_true] at hs
       obtain ⟨⟨k1,j1⟩,p1,p2,p3⟩:=hs
       have p2:=Nat.eq_of_beq_eq_true p2
       have p3:=Nat.eq_of_beq_eq_true p3
       simp only at p2 p3
       subst p2 p3
       exact hA _ _ _ _ _ _ _ _ _ _ p1 (fun hd=>uu hm (hD _ hd)) g1 g2
     refine ⟨(k,v)::ek,ay.cons (h:=[]) hdr q1,fun p hp=>?_,?_⟩
     ·rcases List.mem_cons.1 hp with rfl | hp
      ·exact ⟨g1,uu hm⟩
      ·obtain ⟨h1,h2⟩:=q2 p hp
       exact ⟨h1,fun h=>h2 (List.mem_cons_of_mem _ h)⟩
     ·simp only [List.map_cons,List.nodup_cons]
      refine ⟨fun hk=>?_,q3⟩
      obtain ⟨p,hp,hpk⟩:=List.mem_map.1 hk
      exact (q2 p hp).2 (hpk▸List.mem_cons_self)
theorem F9 {n:Nat}: ∀ {l:List Nat},mem n l=true→n∈l
 | k::r,h=>by
  unfold mem at h
  cases hb:Nat.beq k n with
  | true=>rw [Nat.eq_of_beq_eq_true hb];exact List.mem_cons_self
  | false=>rw [hb] at h;exact List.mem_cons_of_mem _ (F9 h)
theorem Jw: ∀ {l m:List (Bool×Nat×List Dir×Nat)},Me l m=true→l=m
 | [],[],_=>rfl
 | (b,j,p,o)::r,(b',j',p',o')::q,h=>by
  simp only [Me,Bool.and_eq_true] at h
  obtain ⟨h1,h2,h3,h4,h5⟩:=h
  have e1:b=b':=by cases b<;>cases b'<;>first | rfl | cases h1
  rw [e1,Nat.eq_of_beq_eq_true h2,Nat.eq_of_beq_eq_true h3,qY h4,Jw h5]
 | [],_::_,h=>by cases h
 | _::_,[],h=>by cases h
theorem T9 {js:List Nat} {d d':D} (h:d.XG js d'=true):d=d'∧(∀ i p o,d'= .bO i p o→i∈js)∧(∀ W v hh,DR W d' v hh→DR W d' v [])∧ ∀ i p o n z q qo,d'≠ .xZ i p o n z q qo:=by
 unfold D.XG at h
 split at h
 case h_5=>cases h
 ·simp only [Bool.and_eq_true] at h
  obtain ⟨h1,h2,h3⟩:=h
  rw [Nat.eq_of_beq_eq_true h1,Nat.eq_of_beq_eq_true h2,qY h3]
  exact ⟨rfl,fun _ _ _ e=>(by cases e),fun _ _ _ hd=>⟨hd.1,rfl⟩,fun _ _ _ _ _ _ _ e=>by cases e⟩
 ·simp only [Bool.and_eq_true] at h
  obtain ⟨⟨h1,h2,h3⟩,h4⟩:=h
  rw [Nat.eq_of_beq_eq_true h1] at h4 ⊢
  rw [Nat.eq_of_beq_eq_true h2,qY h3]
  exact ⟨rfl,fun _ _ _ e=>(by injection e with e;rw [← e];exact F9 h4),fun _ _ _ hd=>⟨hd.1,rfl⟩,fun _ _ _ _ _ _ _ e=>by cases e⟩
 ·simp only [Bool.and_eq_true] at h
  obtain ⟨h1,h2,h3⟩:=h
  rw [Nat.eq_of_beq_eq_true h1,Nat.eq_of_beq_eq_true h2,qY h3]
  exact ⟨rfl,fun _ _ _ e=>(by cases e),fun _ _ _ hd=>⟨hd.1,rfl⟩,fun _ _ _ _ _ _ _ e=>by cases e⟩
 ·simp only [Bool.and_eq_true] at h
  obtain ⟨h1,h2,h3⟩:=h
  rw [Nat.eq_of_beq_eq_true h1,Nat.eq_of_beq_eq_true h2,Jw h3]
  exact ⟨rfl,fun _ _ _ e=>(by cases e),fun _ _ _ hd=>⟨hd.1,rfl⟩,fun _ _ _ _ _ _ _ e=>by cases e⟩
theorem KT {W':d_} {js:List Nat} (hle:W.φ.le W'.φ) (hadr:W'.aA=W.aA) (hjs: ∀ j∈js,W'.hd j=W.hd j) {hs:List Chunk} (hE:ay W S.env e hs): ∀ (l:List (Nat×D)),Hy js S l=true→ ∃ er,ay W' l er []∧(∀ p∈er,rW e p.1 p.2)∧er.map (·.1)=l.map (·.1)
 | [],_=>⟨[], .nil,by simp,rfl⟩
 | (k,d)::l,h=>by
  unfold Hy at h
  split at h
  case h_2=>cases h
  case h_1 d' hl=>
  cases hb:d.XG js d' with
  | false=>rw [hb] at h;cases h
  | true=>
   rw [hb] at h
   obtain ⟨rfl,h2,h3,h4⟩:=T9 hb
   obtain ⟨er,q1,q2,q3⟩:=KT hle hadr hjs hE l h
   obtain ⟨v,h',_,g1,g2,_⟩:=hE.look hl
   refine ⟨(k,v)::er,ay.cons (h:=[]) ((h3 _ _ _ g2).move hle hadr (fun i p o e=>by rw [hjs i (h2 i p o e)]) fun i p o n z q qo e=>(h4 _ _ _ _ _ _ _ e).elim) q1,fun p hp=>?_,by simp [q3]⟩
   rcases List.mem_cons.1 hp with rfl | hp
   ·exact g1
   ·exact q2 p hp
theorem I7: ∀ {l:List (Nat×Nat)},Iq S l=true→ ∀ k j,(k,j)∈l→ ∃ p o m z q qo,look S.env k=some (.xV j p o m z q qo)
 | [],_,k,j,h=>by cases h
 | (k0,j0)::l,h,k,j,hm=>by
  unfold Iq at h
  split at h
  case h_2=>cases h
  case h_1 j' p o m z q qo hl=>
  cases hb:Nat.beq j0 j' with
  | false=>rw [hb] at h;cases h
  | true=>
   rw [hb] at h
   have hb:=Nat.eq_of_beq_eq_true hb
   subst hb
   rcases List.mem_cons.1 hm with e | hm
   ·injection e with e1 e2
    subst e1 e2
    exact ⟨_,_,_,_,_,_,hl⟩
   ·exact I7 h k j hm
def bL.join (a b:bL):bL:=⟨fun x=>match a x with | some v=>some v | none=>b x,fun g=>a.b g∨b.b g⟩
theorem O8 {s:Shape} {S0:St} {W0:d_} {e0:Env} {eh0:List Chunk} {a0:Act} {dead:List Nat} {z:ai s.og} (hG: ∀ w,G w→Agree W0.φ w) (hE0:ay W0 S0.env e0 eh0) (hf0:Fr a0 N e0) (hK: ∀ t,t∉dead→a.tmps[t]? =a0.tmps[t]?)
  (hget:s.get S=some z) (hat:At N C G S a w):At N C G (s.mk' dead S0 z) a w:=by
 obtain ⟨W,e,eh,oh,hs,hf,hb⟩:=hat
 unfold Shape.get at hget
 cases hc:(s.ok && nodupB (pO S s.var++s.obj.map (·.1)) && Hy (s.obj.map (·.1)) S s.ref && Iq S s.xV) with
 | false=>rw [hc] at hget;cases hget
 | true=>
 rw [hc] at hget
 simp only [Bool.and_eq_true,Shape.ok] at hc
 obtain ⟨⟨⟨⟨hc1,hc2⟩,hc3⟩,hc4⟩,hc5⟩:=hc
 have hc1:=sM hc1
 have hc2:=sM hc2
 have hc3:=sM hc3
 obtain ⟨f,f1,f2⟩:=hs.env.UI hf.nd
 obtain ⟨g,g1,g2⟩:=hs.l9.UI hs.nd
 have hInv:=hb.get
 let φ2:bL:=W.φ.join W0.φ
 have le1:W.φ.le φ2:=⟨fun x v hx=>by show (match W.φ x with | some v=>some v | none=>W0.φ x)=some v;rw [hx],fun _ h=> .inl h⟩
 have le2:W0.φ.le φ2:=by
  refine ⟨fun x v hx=>?_,fun _ h=> .inr h⟩
  show (match W.φ x with | some v=>some v | none=>W0.φ x)=some v
  cases h:W.φ x with
  | none=>exact hx
  | some u=>
   have h1:=hInv.2 x u h
   have h2:=hG w hInv.1 x v hx
   rw [h1] at h2
   exact h2
 obtain ⟨hd',ev,eh1,oh1,q1,q2,q3,q4,q5,q6,q7⟩:=GD (W:=⟨φ2,W.aA,W.hd⟩) (f:=f) (g:=g) (fun k d hk=>by
   obtain ⟨v,h1,h2⟩:=f1 k d hk
   exact ⟨v,h1,h2.same le1 rfl rfl⟩) (fun j ob hj=>by
   obtain ⟨h0,t1,t2⟩:=g1 _ (mW hj)
   exact ⟨h0,t1.mono le1,t2⟩) s.var z hget hc2
 obtain ⟨ek,k1,k2,k3⟩:=wC (al:=s.xV) (D0:=dead) (W':=⟨φ2,W.aA,hd'⟩) hE0 le2 (fun k j p o m z q qo v h hal hk hl hd=>by
  obtain ⟨p',o',m',z',q',qo',hl2⟩:=I7 hc5 k j hal
  obtain ⟨v2,_,_,g3,g4,_⟩:=hs.env.look hl2
  have e1:=hf0.look hl
  have e2:=hf.look g3
  rw [Array.getD_eq_getD_getElem?,hK k hk, ← Array.getD_eq_getD_getElem?,e1] at e2
  subst e2
  obtain ⟨d1,_⟩:=hd
  obtain ⟨d2,_⟩:=g4
  refine ⟨?_,rfl⟩
  show v=Xa (W.aA j) o z qo m
  cases m with
  | none=>exact d1
  | some n=>
   cases m' with
   | none=>rw [d1] at d2;cases d2
   | some n'=>
    rw [d1] at d2
    have d2:Value.pointer (some ⟨W0.aA j,o+(n*z+qo),none⟩)=Value.pointer (some ⟨W.aA j,o'+(n'*z'+qo'),none⟩):=d2
    injection d2 with d2
    injection d2 with d2
    injection d2 with d2
    rw [d1,d2]) s.keep (dead++(s.var.map (·.1)++s.ref.map (·.1))) (fun k hk=>List.mem_append_left _ hk)
 obtain ⟨er,r1,r2,r3⟩:=KT (W:=W) (W':=⟨φ2,W.aA,hd'⟩) le1 rfl (fun j hj=>q7 j fun h=>(List.nodup_append.1 hc2).2.2 _ h _ hj rfl) hs.env s.ref hc4
 have hkv:ev.map (·.1)=s.var.map (·.1):=by rw [← q1.keys,(sZ s.var z).1]
 refine ⟨⟨φ2,W.aA,hd'⟩,ek++(er++ev),[]++([]++eh1),oh1,⟨k1.append (r1.append q1),q3,?_⟩,⟨hf.size,hf.defers,?_,?_⟩,?_⟩
 ·show ((qF s.obj s.var z).az.map (·.1)).Nodup
  rw [(sZ s.var z).2.1];exact hc2
 ·intro p hp
  rcases List.mem_append.1 hp with hp | hp
  ·obtain ⟨h1,h2⟩:=k2 p hp
   rw [← hf0.look h1]
   rw [Array.getD_eq_getD_getElem?,Array.getD_eq_getD_getElem?,hK p.1 fun h=>h2 (List.mem_append_left _ h)]
  ·rcases List.mem_append.1 hp with hp | hp
   ·exact hf.look (r2 p hp)
   ·exact hf.look (q2 p hp)
 ·rw [List.map_append,List.map_append,r3,hkv]
  refine List.nodup_append.2 ⟨k3,?_,?_⟩
  ·exact (List.perm_append_comm.nodup_iff).1 hc1
  ·intro i hi j hj he
   subst he
   obtain ⟨p,hp,rfl⟩:=List.mem_map.1 hi
   refine (k2 p hp).2 (List.mem_append_right _ ?_)
   rcases List.mem_append.1 hj with h | h
   ·exact List.mem_append_right _ h
   ·exact List.mem_append_left _ h
 ·simp only [List.nil_append]
  have hsub:Sub (eh++oh) (eh1++oh1):=by
   refine Sub.trans ?_ q4
   rw [f2,g2]
   obtain ⟨z',hz'⟩:=Dl s.var z hget
   have p1:=(rf (by rw [hs.env.keys];exact hf.nd) (List.nodup_append.1 hc1).1 q5).flatMap_right (f:=f)
   have p2:=(rf hs.nd hc3 (fun j hj=>by
    rcases List.mem_append.1 hj with h | h
    ·exact q6 j h
    ·exact EO s.obj z' hz' j h)).flatMap_right (f:=g)
   rw [List.flatMap_append] at p1 p2
   refine Sub.app ?_ ?_
   ·exact (Sub.perm p1).trans Sub.left
   ·rw [List.flatMap_append] at p2 ⊢
    exact (Sub.perm p2).trans Sub.left
  refine (hsub.hb hb).imp fun w' hw'=>⟨hw'.1,fun x v hx=>?_,fun g hg=>hg.elim (hw'.2.blk g) ((hG w' hw'.1).blk g)⟩
  have hx:(match W.φ x with | some v=>some v | none=>W0.φ x)=some v:=hx
  cases h:W.φ x with
  | none=>rw [h] at hx;exact hG w' hw'.1 x v hx
  | some u=>rw [h] at hx;exact hw'.2 x v (h.trans hx)
end
end Go.Lf
/-
  A region that draws its order: its operations may be numbered anew.
-/
namespace Go.Lf
open Go Go.iM
def nS (P:Program) (ops:Array Oper) (Q:Exit→Act→World→Prop) (a:Act) (w:World):Prop:= ∃ Q':Exit→Act→World→Prop,(∀ e a w,Q' e a w→Q e a w)∧wpAny P .any ops Q' ops.size (Array.replicate ops.size false) a { w with drawn:=w.drawn+1 }
def Xg (P:Program) (id:Nat) (ops:Array Oper) (dr:Bool) (Q:Exit→Act→World→Prop) (a:Act) (w:World):Prop:=match dr with
 | true=>nS P ops Q a w
 | false=>(Code.region id ops false).wp P Q a w
section
variable {P:Program} {Q:Exit→Act→World→Prop}
theorem nS.wp {id:Nat} {ops:Array Oper} {a:Act} {w:World} (hm:P.follows .mixedOrders=true) (h:nS P ops Q a w):(Code.region id ops true).wp P Q a w:=
 let ⟨_,h1,h2⟩:=h
 Code.wp_mono h1 (wp_region_any hm h2)
theorem Xg.wp {id:Nat} {ops:Array Oper} {dr:Bool} {a:Act} {w:World} (hm:P.follows .mixedOrders=true) (h:Xg P id ops dr Q a w):(Code.region id ops dr).wp P Q a w:=by
 cases dr with
 | true=>exact nS.wp hm h
 | false=>exact h
theorem P_ {α β:Type} {f:α→Option β}: ∀ {t:List α},(∀ x∈t,(f x).isSome=true)→ ∀ (i:Nat),(t.filterMap f)[i]? =(t[i]?).bind f
 | [],_,i=>by simp
 | x::r,h,i=>by
  obtain ⟨y,hy⟩:=Option.isSome_iff_exists.1 (h x List.mem_cons_self)
  rw [List.filterMap_cons,hy]
  cases i with
  | zero=>simp [hy]
  | succ i=>simpa using P_ (fun z hz=>h z (List.mem_cons_of_mem _ hz)) i
theorem qi {j:Nat}: ∀ {s:List Nat},j∈s→s[posOf j s]? =some j
 | k::r,h=>by
  unfold posOf
  cases hb:Nat.beq k j with
  | true=>simp [Nat.eq_of_beq_eq_true hb]
  | false=>
   rw [cond_false,List.getElem?_cons_succ]
   refine qi ?_
   rcases List.mem_cons.1 h with rfl | h
   ·rw [Nat.beq_refl] at hb;cases hb
   ·exact h
theorem IQ {s:List Nat} (hn:s.Nodup) {i j:Nat} (h:s[i]? =some j):posOf j s=i:=by
 have h1:=qi (List.mem_of_getElem? h)
 have hi:=(List.getElem?_eq_some_iff.1 h).1
 exact (List.getElem?_inj (by exact (List.getElem?_eq_some_iff.1 h1).1) hn).1 (h1.trans h.symm)
structure Bc (s:List Nat) (l:List Oper):Prop where
 nd:s.Nodup
 all: ∀ j,j<l.length→j∈s
 lt: ∀ i∈s,i<l.length
 len:s.length=l.length
 edge: ∀ o∈l, ∀ e∈o.after,e.on<l.length
 gd: ∀ o∈l, ∀ j b,o.guard=some (j,b)→j<l.length
theorem Po {s:List Nat} {l:List Oper} (h:Jq s l=true):Bc s l:=by
 unfold Jq at h
 simp only [Bool.and_eq_true,List.all_eq_true] at h
 obtain ⟨⟨⟨⟨h1,h2⟩,h3⟩,h4⟩,h5⟩:=h
 refine ⟨sM h1,fun j hj=>F9 (h2 j (List.mem_range.2 hj)),fun i hi=>by simpa [Nat.blt_eq] using h3 i hi,Nat.eq_of_beq_eq_true h4,fun o ho e he=>?_,fun o ho j b hg=>?_⟩
 ·have:=(h5 o ho).1 e (by simpa using he)
  simpa [Nat.blt_eq] using this
 ·have:=(h5 o ho).2
  rw [hg] at this
  simpa [Nat.blt_eq] using this
theorem Jc {s:List Nat} {l:List Oper} (hF:Bc s l) (i:Nat):(oU s l)[i]? =(s[i]?).bind fun j=>(l[j]?).map (Jd s):=by
 unfold oU
 rw [P_]
 ·cases s[i]? with
  | none=>rfl
  | some j=>simp only [Option.bind_some];cases l[j]? <;>rfl
 ·intro j hj
  rw [List.getElem?_eq_getElem (hF.lt j hj)]
  rfl
theorem Gg {s:List Nat} {l:List Oper} (hF:Bc s l) {i j:Nat} (h:s[i]? =some j):(oU s l)[i]? =(l[j]?).map (Jd s):=by rw [Jc hF,h];rfl
theorem OO {s:List Nat} {l:List Oper} (hF:Bc s l):(oU s l).length=l.length:=by
 rw [← hF.len]
 unfold oU
 rw [List.length_filterMap_eq_countP,List.countP_eq_length.2]
 intro j hj
 rw [List.getElem?_eq_getElem (hF.lt j hj)]
 rfl
theorem Rq {s:List Nat} {o:Oper} {K:Act→World→Prop} {a:Act} {w:World}:(Jd s o).wp P a w K Q=o.wp P a w K Q:=by cases o;rfl
theorem ND {s:List Nat} {o:Oper} {a:Act} {w:World}:(Jd s o).asks P a w=o.asks P a w:=by cases o;rfl
theorem Jk {s:List Nat} {l:List Oper} (hF:Bc s l) {k:Nat} (hk:k<l.length) (tmps:Array Value):yielded (oU s l).toArray tmps (posOf k s)=yielded l.toArray tmps k:=by
 unfold yielded
 rw [List.getElem?_toArray,List.getElem?_toArray,Gg hF (qi (hF.all k hk))]
 cases l[k]? <;>rfl
theorem KL {s:List Nat} {l:List Oper} (hF:Bc s l) {o:Oper} (ho:o∈l) (tmps:Array Value):Region.wanted (Jd s o) (yielded (oU s l).toArray tmps)=Region.wanted o (yielded l.toArray tmps):=by
 unfold Region.wanted Jd
 cases hg:o.guard with
 | none=>rfl
 | some p=>
  obtain ⟨j,b⟩:=p
  simp only
  rw [Jk hF (hF.gd o ho j b hg)]
theorem Sc {s:List Nat} {l:List Oper} (hF:Bc s l) {i j:Nat} (h:s[i]? =some j) {K:Act→World→Prop} {a:Act} {w:World} (hw:wpOp P (oU s l).toArray Q i K a w):wpOp P l.toArray Q j K a w:=by
 unfold wpOp at hw ⊢
 rw [List.getElem?_toArray,Gg hF h] at hw
 rw [List.getElem?_toArray]
 cases ho:l[j]? with
 | none=>rw [ho] at hw;exact hw
 | some o=>
  rw [ho] at hw
  simp only [Option.map_some] at hw ⊢
  rw [KL hF (List.mem_of_getElem? ho),Rq,ND] at hw
  exact hw
theorem ET {L:Array Bool} {j:Nat} (h:j<L.size) (b b':Bool):L.getD j b=L.getD j b':=by
 simp [Array.getD,h]
structure CZ (s:List Nat) (n:Nat) (L L':Array Bool):Prop where
 size:L.size=n
 size':L'.size=n
 eq: ∀ i j,s[i]? =some j→L'.getD i true=L.getD j true
theorem CZ.set {s:List Nat} {n:Nat} {L L':Array Bool} (hn:s.Nodup) (hl: ∀ i∈s,i<n) (hs:s.length=n) (h:CZ s n L L') {i j:Nat} (hi:s[i]? =some j):CZ s n (L.setIfInBounds j true) (L'.setIfInBounds i true):=by
 refine ⟨by simp [h.size],by simp [h.size'],fun i2 j2 h2=>?_⟩
 have hin:i<n:=by rw [← hs];exact (List.getElem?_eq_some_iff.1 hi).1
 have hjn:j<n:=hl j (List.mem_of_getElem? hi)
 have hin2:i2<n:=by rw [← hs];exact (List.getElem?_eq_some_iff.1 h2).1
 have hjn2:j2<n:=hl j2 (List.mem_of_getElem? h2)
 have h3:=h.eq i2 j2 h2
 by_cases he:i2=i
 ·subst he
  rw [hi] at h2
  injection h2 with h2
  subst h2
  have e1:i2<L'.size:=by rw [h.size'];exact hin
  have e2:j<L.size:=by rw [h.size];exact hjn
  simp [Array.getD,e1,e2]
 ·have hj:j2≠j:=fun e=>by
   subst e
   exact he ((IQ hn h2).symm.trans (IQ hn hi))
  have e1:i2<L'.size:=by rw [h.size'];exact hin2
  have e2:j2<L.size:=by rw [h.size];exact hjn2
  have n1: ¬ i=i2:=fun e=>he e.symm
  have n2: ¬ j=j2:=fun e=>hj e.symm
  simp [Array.getD,e1,e2] at h3
  simp [Array.getD,e1,e2,n1,n2,h3]
theorem OH {s:List Nat} {l:List Oper} (hF:Bc s l) {md:Region.Mode}: ∀ (fuel:Nat) (L L':Array Bool) (a:Act) (w:World),CZ s l.length L L'→wpAny P md (oU s l).toArray Q fuel L' a w→wpAny P md l.toArray Q fuel L a w:=by
 have r1: ∀ (L L':Array Bool),CZ s l.length L L'→ ∀ j,j∈Region.ready md l.toArray L→ ∃ i,s[i]? =some j∧i∈Region.ready md (oU s l).toArray L':=fun L L' hL j hj=>by
  obtain ⟨h1,o,h2,h3⟩:=mem_ready.1 hj
  rw [List.getElem?_toArray] at h2
  have hjn:=(List.getElem?_eq_some_iff.1 h2).1
  have hp:=qi (hF.all j hjn)
  refine ⟨posOf j s,hp,mem_ready.2 ⟨(hL.eq _ _ hp).trans h1,Jd s o,by rw [List.getElem?_toArray,Gg hF hp,h2];rfl,fun e' he' hb=>?_⟩⟩
  have he':e'∈(o.after.toList.map fun e=>({ e with on:=posOf e.on s }:Edge)).toArray:=he'
  simp only [List.mem_toArray,List.mem_map] at he'
  obtain ⟨e,he,rfl⟩:=he'
  have he:e∈o.after:=by simpa using he
  have hon:=hF.edge o (List.mem_of_getElem? h2) e he
  have hpe:=qi (hF.all e.on hon)
  have h4:=h3 e he hb
  show L'.getD (posOf e.on s) false=true
  rw [ET (b':=true) (by rw [hL.size', ← hF.len];exact (List.getElem?_eq_some_iff.1 hpe).1),hL.eq _ _ hpe,ET (b':=false) (by rw [hL.size];exact hon)]
  exact h4
 have r2: ∀ (L L':Array Bool),CZ s l.length L L'→ ∀ i,i∈Region.ready md (oU s l).toArray L'→ ∃ j,s[i]? =some j∧j∈Region.ready md l.toArray L:=fun L L' hL i hi=>by
  obtain ⟨h1,o',h2,h3⟩:=mem_ready.1 hi
  rw [List.getElem?_toArray,Jc hF] at h2
  cases hs:s[i]? with
  | none=>rw [hs] at h2;cases h2
  | some j=>
   rw [hs] at h2
   simp only [Option.bind_some] at h2
   cases ho:l[j]? with
   | none=>rw [ho] at h2;cases h2
   | some o=>
    rw [ho] at h2
    simp only [Option.map_some,Option.some.injEq] at h2
    subst h2
    refine ⟨j,rfl,mem_ready.2 ⟨(hL.eq _ _ hs).symm.trans h1,o,by rw [List.getElem?_toArray];exact ho,fun e he hb=>?_⟩⟩
    have hon:=hF.edge o (List.mem_of_getElem? ho) e he
    have hpe:=qi (hF.all e.on hon)
    have h4:=h3 { e with on:=posOf e.on s } (by
     show _∈(o.after.toList.map fun e=>({ e with on:=posOf e.on s }:Edge)).toArray
     simp only [List.mem_toArray,List.mem_map]
     exact ⟨e,by simpa using he,rfl⟩) hb
    have h4:L'.getD (posOf e.on s) false=true:=h4
    rw [ET (b':=true) (by rw [hL.size', ← hF.len];exact (List.getElem?_eq_some_iff.1 hpe).1),hL.eq _ _ hpe,ET (b':=false) (by rw [hL.size];exact hon)] at h4
    exact h4
 have none: ∀ (L L':Array Bool),CZ s l.length L L'→(Region.ready md l.toArray L=[]↔Region.ready md (oU s l).toArray L'=[]):=fun L L' hL=>by
  constructor
  ·intro h
   refine List.eq_nil_iff_forall_not_mem.2 fun i hi=>?_
   obtain ⟨j,_,hj⟩:=r2 L L' hL i hi
   rw [h] at hj;cases hj
  ·intro h
   refine List.eq_nil_iff_forall_not_mem.2 fun j hj=>?_
   obtain ⟨i,_,hi⟩:=r1 L L' hL j hj
   rw [h] at hi;cases hi
 intro fuel
 induction fuel with
 | zero=>intro L L' a w hL h;exact ⟨(none L L' hL).2 h.1,h.2⟩
 | succ fuel ih=>
  intro L L' a w hL h
  refine ⟨fun h0=>h.1 ((none L L' hL).1 h0),fun j hj=>?_⟩
  obtain ⟨i,hs,hi⟩:=r1 L L' hL j hj
  exact wpOp_mono (fun a' w'=>ih _ _ a' w' (hL.set hF.nd hF.lt hF.len hs)) (Sc hF hs (h.2 i hi))
theorem nS.perm {s:List Nat} {l:List Oper} (h:Jq s l=true) {a:Act} {w:World} (hd:nS P (oU s l).toArray Q a w):nS P l.toArray Q a w:=by
 have hF:=Po h
 obtain ⟨Q',h1,h2⟩:=hd
 refine ⟨Q',h1,?_⟩
 simp only [List.size_toArray,OO hF] at h2 ⊢
 refine OH hF _ _ _ _ _ ⟨by simp,by simp,fun i j hs=>?_⟩ h2
 have hin:i<l.length:=by rw [← hF.len];exact (List.getElem?_eq_some_iff.1 hs).1
 have hjn:j<l.length:=hF.lt j (List.mem_of_getElem? hs)
 simp [Array.getD,hin,hjn]
theorem OV {s:List Nat} {l:List Oper} {o:Oper} (h:o∈oU s l): ∃ o',o'∈l∧o'.dst=o.dst:=by
 unfold oU at h
 obtain ⟨i,_,hi⟩:=List.mem_filterMap.1 h
 split at hi
 ·rename_i o' ho
  injection hi with hi
  exact ⟨o',List.mem_of_getElem? ho,by rw [← hi];rfl⟩
 ·cases hi
end
end Go.Lf
/-
  Lists of operations; regions.
-/
namespace Go.Lf
open Go Go.iM
theorem wL {N:Nat} {e:Env} {ops:Array Oper} {o:Oper} {j s:Nat} {want b:Bool} {a:Act} (hf:Fr a N e) (hgd:o.guard=some (j,want)) (hs:(ops[j]?).bind (·.dst)=some s) (hl:rW e s (.bool b)):
  Region.wanted o (yielded ops a.tmps)=(b ==want):=by
 have h1:=hf.look hl
 have h2:a.tmps[s]? =some (.bool b):=by
  cases h:a.tmps[s]? with
  | none=>rw [Array.getD_eq_getD_getElem?,h] at h1;simp [undef] at h1
  | some x=>rw [Array.getD_eq_getD_getElem?,h] at h1;simpa using h1
 simp only [Region.wanted,hgd,yielded,hs,Option.bind_some,h2]
 cases b<;>cases want<;>rfl
theorem p8 {N:Nat} {e:Env} {ops:Array Oper} {o:Oper} {j s:Nat} {want:Bool} {a:Act} (hf:Fr a N e) (hgd:o.guard=some (j,want)) (hs:(ops[j]?).bind (·.dst)=some s) (hl:rW e s undef):
  Region.wanted o (yielded ops a.tmps)=false:=by
 have h1:=hf.look hl
 simp only [Region.wanted,hgd,yielded,hs,Option.bind_some]
 cases h:a.tmps[s]? with
 | none=>rfl
 | some x=>
  rw [Array.getD_eq_getD_getElem?,h] at h1
  have h2:x=undef:=by simpa using h1
  subst h2
  rfl
theorem qx {α:Type} {l:List (Nat×α)} {k:Nat} {v:α} (h:look l k=some v):aQ l k v=l:=by
 induction l with
 | nil=>cases h
 | cons p r ih=>
  rw [show p=(p.1,p.2) from rfl,au] at h
  rw [show p=(p.1,p.2) from rfl,aJ]
  split at h
  ·rename_i he
   simp only [Option.some.injEq] at h
   rw [if_pos he, ← h, ← he]
  ·rename_i he
   rw [if_neg he,ih h]
section
variable {P:Program} {N:Nat} {C:Cx} {G:World→Prop} {c:Ctx} {S:St} {Rt:Type} {k:St→Option Rt} {r:Rt} {a:Act} {w:World}
variable {W:d_} {e:Env} {eh oh:List Chunk} {K:Act→Prop} {Q:Exit→Act→World→Prop}
theorem gD.wp {o:Oper} {S':St} {next:Act→World→Prop} (h:gD P N C G o S' a w) (hn: ∀ v w',At N C G S' (a.put o.dst v) w'→next (a.put o.dst v) w'):o.wp P a w next Q:=by
 unfold gD at h
 unfold Oper.wp
 generalize (execOp a.eval o).run P w=x at h
 cases x with
 | halt x w2=>exact h.elim
 | ok x w2=>
  cases x<;>first | exact h.elim | skip
  ·exact hn _ _ h
  ·exact hn _ _ h
  ·exact Calls.mono h fun y w3 hy=>by
    obtain ⟨v,rfl,h4⟩:=hy
    exact hn _ _ h4
theorem nA {all:List Oper} {j s:Nat} (h:A_ all j=some s):(all.toArray[j]?).bind (·.dst)=some s:=by
 unfold A_ at h
 split at h
 ·rename_i o ho
  simp [ho,h]
 ·cases h
theorem sV {b:Ty.den .bool} {want:Bool} (h:b=want):D.v .bool b=bR want:=by subst h;rfl
theorem sj (hc:aO P G c) (hn:c.n=N) {all:List Oper}: ∀ (l:List Oper) (S:St),opsE c all l S k=some r→(∀ o∈l, ∀ v a,K a→K (a.put o.dst v))→(∀ S',k S'=some r→ ∀ a w,At N C G S' a w→K a→Q .normal a w)→
  ∀ a w,At N C G S a w→K a→wpList P all.toArray Q l a w
 | [],S,h,_,hQ=>fun a w hat ha=>wpList_nil (hQ S h a w hat ha)
 | o::l,S,h,hK,hQ=>fun a w hat ha=>by
  have hK1:=hK o List.mem_cons_self
  have hK2: ∀ o∈l, ∀ v a,K a→K (a.put o.dst v):=fun o ho=>hK o (List.mem_cons_of_mem _ ho)
  have step: ∀ S2,F8 c o S2 (fun S'=>opsE c all l S' k)=some r→At N C G S2 a w→ ∀ KK:Act→World→Prop,(∀ a w,wpList P all.toArray Q l a w→KK a w)→o.wp P a w KK Q:=fun S2 h2 hat2 KK hKK=>by
   obtain ⟨S',g1,g2⟩:=Pj (N:=N) (C:=C) hc hn h2
   exact (g2 a w hat2).wp fun v w' hv=>hKK _ _ (sj hc hn l S' g1 hK2 hQ _ _ hv (hK1 v a ha))
  unfold opsE at h
  split at h
  ·rename_i hg
   exact wpList_plain hg fun KK hKK=>step S h hat KK hKK
  ·rename_i j want hg
   split at h
   case h_2=>cases h
   case h_1 s d hs hd=>
   have skip: ∀ S2,Nat.blt d c.n=true→opsE c all l (S2.put d .EF) k=some r→At N C G S2 a w→ ∀ KK:Act→World→Prop,(∀ a w,wpList P all.toArray Q l a w→KK a w)→KK (a.put o.dst undef) w:=fun S2 hb2 h2 hat2 KK hKK=>by
    obtain ⟨W,e,eh,oh,q1,q2,q3⟩:=hat2
    refine hKK _ _ (sj hc hn l _ h2 hK2 hQ _ _ ?_ (hK1 undef a ha))
    rw [hd]
    exact At.put (h:=[]) q1 q2 q3 (D':= .EF) (v:=undef) ⟨rfl,rfl⟩ (hn▸j_ hb2)
   split at h
   ·rename_i b hl
    obtain ⟨W,e,eh,oh,q1,q2,q3⟩:=id hat
    obtain ⟨v,h',_,g1,g2,_⟩:=q1.env.look hl
    obtain ⟨cs,_,g3,g4⟩:=g2
    obtain ⟨rfl,_⟩:=g4
    subst g3
    have hw:=wL q2 hg (nA hs) (b:=b) g1
    refine wpList_step fun KK hKK=>?_
    rw [hw]
    have hb:(bif want then b else !b)=(b ==want):=by cases want<;>cases (b:Bool)<;>rfl
    rw [hb] at h
    cases hbw:((b:Bool) ==want) with
    | true=>
     rw [hbw] at h
     have hbe:b=want:=by simpa using hbw
     have e1:S.put s (bR want)=S:=by
      unfold St.put
      rw [qx (by rw [← sV hbe];exact hl)]
     rw [e1] at h
     simp only [if_true]
     exact step S h hat KK hKK
    | false=>
     rw [hbw] at h
     have hbe:b= !want:=by cases want<;>cases (b:Bool)<;>simp_all
     have e1:S.put s (bR (!want))=S:=by
      unfold St.put
      rw [qx (by rw [← sV hbe];exact hl)]
     rw [e1] at h
     simp only [cond_false] at h
     simp only [Bool.false_eq_true,if_false]
     cases hb2:Nat.blt d c.n with
     | false=>rw [hb2] at h;cases h
     | true=>rw [hb2] at h;exact skip S hb2 h hat KK hKK
   ·rename_i hl
    obtain ⟨W,e,eh,oh,q1,q2,q3⟩:=id hat
    obtain ⟨v,h',_,g1,g2,_⟩:=q1.env.look hl
    obtain ⟨rfl,_⟩:=g2
    have hw:=p8 q2 hg (nA hs) g1
    refine wpList_step fun KK hKK=>?_
    rw [hw]
    simp only [Bool.false_eq_true,if_false]
    cases hb2:Nat.blt d c.n with
    | false=>rw [hb2] at h;cases h
    | true=>rw [hb2] at h;exact skip S hb2 h hat KK hKK
   ·cases h
def Head (P:Program) (N:Nat) (C:Cx) (ops:Array Oper) (e:Env) (hs:List Chunk) (I:World→Prop) (o:Oper) (v:Value):Prop:=
 ∀ a,Fr a N e→(Region.wanted o (yielded ops a.tmps)=false∧v=undef)∨
  (Region.wanted o (yielded ops a.tmps)=true∧ ∀ w,Hb C w hs I→
   match (execOp a.eval o).run P w with
   | .ok (.value u) w'=>u=v∧Hb C w' hs I
   | .ok (.enter f args) w'=>Calls P f args w' fun x w''=>x= .returned v∧Hb C w'' hs I
   | _=>False)
def OZ (e:Env) (d:Option Tmp) (v:Value):Env:=match d with
 | some d=>aQ e d v
 | none=>e
def fV (hl:List (Oper×Value)) (i:Nat) (e:Env):Env:=(hl.take i).foldl (fun e p=>OZ e p.1.dst p.2) e
theorem LM {hl:List (Oper×Value)} (hK: ∀ p∈hl, ∀ a,K a→K (a.put p.1.dst p.2)): ∀ (L:Nat→Bool) (i:Nat) (a:Act),K a→K (puts hl L i a):=by
 induction hl with
 | nil=>intro L i a h;exact h
 | cons p r ih=>
  intro L i a h
  obtain ⟨o,v⟩:=p
  unfold puts
  refine ih (fun p hp=>hK p (List.mem_cons_of_mem _ hp)) L (i+1) _ ?_
  split
  ·exact hK _ List.mem_cons_self a h
  ·exact h
theorem BZ {hl:List (Oper×Value)} (hd:sP hl) {a:Act} (hf:Fr a N e) (h: ∀ (i:Nat) (o:Oper) (v:Value),hl[i]? =some (o,v)→ ∃ d,o.dst=some d∧d<N):
  ∀ i,i≤hl.length→Fr (puts hl (fun j=>decide (j<i)) 0 a) N (fV hl i e)
 | 0,_=>by
  rw [eG hl _ (fun _=>false) 0 a fun j _=>by simp]
  have: ∀ (l:List (Oper×Value)) k b,puts l (fun _=>false) k b=b:=fun l=>by
   induction l with
   | nil=>intro k b;rfl
   | cons p r ih=>intro k b;unfold puts;simp [ih]
  rw [this]
  simpa [fV] using hf
 | i+1,hi=>by
  have ih:=BZ hd hf h i (by omega)
  have hlt:i<hl.length:=by omega
  obtain ⟨⟨o,v⟩,hov⟩: ∃ p,hl[i]? =some p:=⟨_,List.getElem?_eq_getElem hlt⟩
  obtain ⟨d,hod,hdN⟩:=h i o v hov
  have hst:=wZ hd (L:=fun j=>decide (j<i)) hov (by simp) a
  have h1:puts hl (fun j=>decide (j<i+1)) 0 a=(puts hl (fun j=>decide (j<i)) 0 a).put o.dst v:=by
   rw [hst]
   refine eG hl _ _ 0 a fun j _=>?_
   simp only [Nat.zero_add]
   rw [Bool.eq_iff_iff]
   simp
   omega
  rw [h1]
  have h2:fV hl (i+1) e=OZ (fV hl i e) o.dst v:=by
   unfold fV
   rw [List.take_add_one,hov]
   simp
  rw [h2,hod]
  exact Ch ih hdN
structure kZ (l:List Oper) (n:Nat):Prop where
 DY:Region.noSelect l.toArray=true
 le:n≤l.length
 edge: ∀ (i:Nat) (o:Oper),l.toArray[i]? =some o→ ∀ x∈o.after,Region.binds .any x=true→x.on<i
 xe: ∀ (i j:Nat) (oi oj:Oper) (s:Nat),i<n→j<n→l[i]? =some oi→l[j]? =some oj→i≠j→oj.dst=some s→oi.dst≠some s∧(s∈oi.looksAt l.toArray→(j<i∧Region.waitsFor .any l.toArray i j=true)∨(i<j∧Region.waitsFor .any l.toArray j i=true))
 tail:n=l.length∨Region.chainB .any l.toArray n=true
theorem Aq {l:List Oper} {n:Nat} (hF:kZ l n) {hl:List (Oper×Value)} (hdist:sP hl) (hget: ∀ (i:Nat) (o:Oper) (v:Value),hl[i]? =some (o,v)→l[i]? =some o) (hin: ∀ (i:Nat) (o:Oper) (v:Value),hl[i]? =some (o,v)→i<n)
  {listed:Array Bool} (closed: ∀ j oj,l.toArray[j]? =some oj→listed.getD j false=true→ ∀ e∈oj.after,Region.binds .any e=true→listed.getD e.on false=true) {a:Act} {i:Nat} {o':Oper} {v:Value} (hov:hl[i]? =some (o',v)) (ho:l.toArray[i]? =some o') (hLi:listed.getD i false=false)
  (hdeps: ∀ x∈o'.after,Region.binds .any x=true→listed.getD x.on false=true): ∀ s∈o'.looksAt l.toArray,(puts hl (fun j=>listed.getD j false) 0 a).tmps[s]? =(puts hl (fun j=>decide (j<i)) 0 a).tmps[s]? :=by
 have hin':=hin _ _ _ hov
 intro s hs
 by_cases hssz:s<a.tmps.size
 ·by_cases hex3: ∃ j oj vj,hl[j]? =some (oj,vj)∧j≠i∧oj.dst=some s
  ·obtain ⟨j,oj,vj,hj,hji,hds⟩:=hex3
   have h1:=(hF.xe i j o' oj s hin' (hin _ _ _ hj) (hget _ _ _ hov) (hget _ _ _ hj) (Ne.symm hji) hds).2 hs
   have hun2: ∀ (k:Nat) (o2:Oper) (v2:Value),hl[k]? =some (o2,v2)→k≠j→o2.dst≠some s:=fun k o2 v2 hk hkj hd2=>hdist k j o2 v2 oj vj s hk hj hkj hd2 hds
   rcases h1 with h1 | h1
   ·obtain ⟨oi2,hoi2,x,hx,hbx,hon⟩:=Region.waitsFor_spec h1.2
    have:oi2=o':=Option.some.inj (hoi2.symm.trans ho)
    subst this
    have h2:=hdeps x hx hbx
    rw [hon] at h2
    rw [lF hl _ s 0 a j oj vj hj (by simpa using h2) hds hssz hun2,lF hl _ s 0 a j oj vj hj (by simpa using h1.1) hds hssz hun2]
   ·obtain ⟨oj2,hoj2,x,hx,hbx,hon⟩:=Region.waitsFor_spec h1.2
    have hjl:listed.getD j false=false:=by
     cases hg2:listed.getD j false with
     | false=>rfl
     | true=>
      have h2:=closed j oj2 hoj2 hg2 x hx hbx
      rw [hon,hLi] at h2
      cases h2
    have h3: ∀ (L:Nat→Bool),L j=false→(puts hl L 0 a).tmps[s]? =a.tmps[s]? :=fun L hL=>mJ hl L s 0 a fun k ok vk hk hLk hdk=>by
     by_cases hkj:k=j
     ·subst hkj
      rw [Nat.zero_add,hL] at hLk
      cases hLk
     ·exact hun2 k ok vk hk hkj hdk
    rw [h3 _ hjl,h3 _ (by simp;omega)]
  ·have h3: ∀ (L:Nat→Bool),L i=false→(puts hl L 0 a).tmps[s]? =a.tmps[s]? :=fun L hL=>mJ hl L s 0 a fun j oj vj hj hLj hds=>by
    by_cases hji:j=i
    ·subst hji
     rw [Nat.zero_add,hL] at hLj
     cases hLj
    ·exact hex3 ⟨j,oj,vj,hj,hji,hds⟩
   rw [h3 _ hLi,h3 _ (by simp)]
 ·have hz: ∀ L:Nat→Bool,(puts hl L 0 a).tmps[s]? =none:=fun L=>by
   have h5:=(iP hl L 0 a).1
   rw [Array.getElem?_eq_none_iff,h5]
   exact Nat.le_of_not_lt hssz
  rw [hz,hz]
theorem mM {l:List Oper} (hsel':Region.noSelect l.toArray=true) {b b':Act} {i:Nat} {o':Oper} (ho:l.toArray[i]? =some o') (hslot: ∀ s∈o'.looksAt l.toArray,b.tmps[s]? =b'.tmps[s]?):
  execOp b.eval o'=execOp b'.eval o'∧Region.wanted o' (yielded l.toArray b.tmps)=Region.wanted o' (yielded l.toArray b'.tmps):=by
 have hsel: ∀ cs b,o'.op≠ .select cs b:=fun cs b=>Region.noSelect_spec hsel' i o' cs b ho
 refine ⟨execOp_congr o' hsel fun x hx=>?_,?_⟩
 ·cases x with
  | tmp t=>
   have hmem:t∈o'.looksAt l.toArray:=List.mem_append_left _ (List.mem_filterMap.2 ⟨.tmp t,by simpa using hx,rfl⟩)
   have:=hslot t hmem
   show b.tmps.getD t undef=b'.tmps.getD t undef
   rw [Array.getD_eq_getD_getElem?,Array.getD_eq_getD_getElem?,this]
  | _=>rfl
 ·unfold Region.wanted
  cases hgd:o'.guard with
  | none=>rfl
  | some p=>
   obtain ⟨g,want⟩:=p
   simp only
   congr 1
   unfold yielded
   cases hdg:(l.toArray[g]?).bind (·.dst) with
   | none=>rfl
   | some s=>
    have hmem:s∈o'.looksAt l.toArray:=by
     refine List.mem_append_right _ ?_
     simp only [hgd,hdg]
     simp
    simp only [Option.bind_some]
    rw [hslot s hmem]
theorem yB {l:List Oper} {n:Nat} (hF:kZ l n) {listed:Array Bool} (hsz:listed.size=l.toArray.size): ∀ k j,j<n→listed.getD j false=false→j≤k→ ∃ i,i∈Region.ready .any l.toArray listed:=by
 have hle:=hF.le
 have hsize:l.toArray.size=l.length:=by simp
 intro k
 induction k with
 | zero=>
  intro j hj hg hjk
  have hj0:j=0:=by omega
  subst hj0
  have hlt:0<l.toArray.size:=by rw [hsize];omega
  refine ⟨0,mem_ready.2 ⟨getD_in (by rw [hsz];exact hlt) hg,_,Array.getElem?_eq_getElem hlt,fun x hx hbx=>?_⟩⟩
  have:=hF.edge 0 _ (Array.getElem?_eq_getElem hlt) x hx hbx
  omega
 | succ k ihk=>
  intro j hj hg hjk
  have hlt:j<l.toArray.size:=by rw [hsize];omega
  by_cases hd: ∀ x∈(l.toArray[j]).after,Region.binds .any x=true→listed.getD x.on false=true
  ·exact ⟨j,mem_ready.2 ⟨getD_in (by rw [hsz];exact hlt) hg,_,Array.getElem?_eq_getElem hlt,fun x hx hbx=>hd x hx hbx⟩⟩
  ·have hex2: ∃ x∈(l.toArray[j]).after,Region.binds .any x=true∧listed.getD x.on false=false:=by
    apply Classical.byContradiction
    intro hno
    refine hd fun x hx hbx=>?_
    cases hg2:listed.getD x.on false with
    | true=>rfl
    | false=>exact absurd ⟨x,hx,hbx,hg2⟩ hno
   obtain ⟨x,hx,hbx,hg2⟩:=hex2
   have:=hF.edge j _ (Array.getElem?_eq_getElem hlt) x hx hbx
   exact ihk x.on (by omega) hg2 (by omega)
theorem DU {l:List Oper} {n:Nat} {hs:List Chunk} {I:World→Prop} (_hm:P.follows .mixedOrders=true) (hF:kZ l n) {hl:List (Oper×Value)} (hmap:hl.map (·.1)=l.take n)
  (hhead: ∀ i o v,hl[i]? =some (o,v)→Head P N C l.toArray (fV hl i e) hs I o v∧ ∃ d,o.dst=some d∧d<N) (hKh: ∀ p∈hl, ∀ a,K a→K (a.put p.1.dst p.2))
  (htail: ∀ a w,Fr a N (fV hl hl.length e)→Hb C w hs I→K a→wpList P l.toArray Q (l.drop n) a w)
  (hesc: ∀ a,Fr a N e→K a→ ∀ (listed:Array Bool) (fuel:Nat) (w':World),HeadInv .any l.toArray n listed→Hb C w' hs I→(∃ j,j<n∧listed.getD j false=false)→(l.length - n)+(List.range n).countP (fun i=> !listed.getD i true)≤fuel+1→ ∀ i∈Region.ready .any l.toArray listed,n≤i→wpOp P l.toArray Q i (wpAny P .any l.toArray Q fuel (listed.setIfInBounds i true)) (puts hl (fun j=>listed.getD j false) 0 a) w'):
  ∀ a w,Fr a N e→Hb C w hs I→K a→nS P l.toArray Q a w:=by
 intro a w hf hb ha
 refine ⟨Q,fun _ _ _ h=>h,?_⟩
 have hlen:hl.length=n:=by
  have:=congrArg List.length hmap
  simp at this
  have:=hF.le
  omega
 rw [hlen] at htail
 have hget: ∀ (i:Nat) (o:Oper) (v:Value),hl[i]? =some (o,v)→l[i]? =some o:=fun i o v hi=>by
  have h1:(hl.map (·.1))[i]? =some o:=by simp [hi]
  rw [hmap,List.getElem?_take] at h1
  split at h1
  ·exact h1
  ·cases h1
 have hin: ∀ (i:Nat) (o:Oper) (v:Value),hl[i]? =some (o,v)→i<n:=fun i o v hi=>by
  have:=(List.getElem?_eq_some_iff.1 hi).1
  omega
 have hdist:sP hl:=fun i j o v o' v' s hi hj hij hds=>(hF.xe j i o' o s (hin _ _ _ hj) (hin _ _ _ hi) (hget _ _ _ hj) (hget _ _ _ hi) (Ne.symm hij) hds).1
 have hfr:=BZ hdist hf fun i o v hi=>(hhead i o v hi).2
 have hsize:l.toArray.size=l.length:=by simp
 have main: ∀ (fuel:Nat) (listed:Array Bool) (w':World),HeadInv .any l.toArray n listed→Hb C w' hs I→
   (l.length - n)+(List.range n).countP (fun i=> !listed.getD i true)≤fuel→
   wpAny P .any l.toArray Q fuel listed (puts hl (fun j=>listed.getD j false) 0 a) w':=by
  intro fuel
  induction fuel with
  | zero=>
   intro listed w' inv hb' hfu
   have hall: ∀ j,j<n→listed.getD j false=true:=fun j hj=>by
    have h1:(List.range n).countP (fun i=> !listed.getD i true)=0:=by omega
    have h2:=List.countP_eq_zero.1 h1 j (List.mem_range.2 hj)
    rw [← l8 (by rw [inv.size,hsize];have:=hF.le;omega)]
    simpa using h2
   refine tO hF.edge (hF.tail.imp (fun h=>by rw [hsize];exact h) (fun h=>h)) 0 n listed _ w' (Nat.le_refl _) (by rw [hsize];exact hF.le) inv.size (fun j hj=>?_) (by rw [hsize];omega) ?_
   ·by_cases hjn:j<n
    ·rw [hall j hjn];simp [hjn]
    ·rw [← l8 (by rw [inv.size];exact hj)]
     have h1:=inv.tail j (by omega) hj
     have h2:listed.getD j false=false:=getD_both h1
     rw [l8 (by rw [inv.size];exact hj),h2]
     simp [hjn]
   ·have h1:=htail _ w' (hfr n (by omega)) hb' (LM hKh _ _ _ ha)
    rw [eG hl _ (fun j=>decide (j<n)) 0 a fun j hj=>by
     simp only [Nat.zero_add]
     rw [hall j (by omega)]
     simp [show j<n by omega]]
    exact h1
  | succ fuel ih=>
   intro listed w' inv hb' hfu
   by_cases hall: ∀ j,j<n→listed.getD j false=true
   ·have h0:(List.range n).countP (fun i=> !listed.getD i true)=0:=List.countP_eq_zero.2 fun j hj=>by
     have hj':=List.mem_range.1 hj
     rw [l8 (by rw [inv.size,hsize];have:=hF.le;omega),hall j hj']
     simp
    refine tO hF.edge (hF.tail.imp (fun h=>by rw [hsize];exact h) (fun h=>h)) (fuel+1) n listed _ w' (Nat.le_refl _) (by rw [hsize];exact hF.le) inv.size (fun j hj=>?_) (by rw [hsize];omega) ?_
    ·by_cases hjn:j<n
     ·rw [hall j hjn];simp [hjn]
     ·have h1:=inv.tail j (by omega) hj
      rw [getD_both h1]
      simp [hjn]
    ·have h1:=htail _ w' (hfr n (by omega)) hb' (LM hKh _ _ _ ha)
     rw [eG hl _ (fun j=>decide (j<n)) 0 a fun j hj=>by
      simp only [Nat.zero_add]
      rw [hall j (by omega)]
      simp [show j<n by omega]]
     exact h1
   ·-- some head is left
    have hex: ∃ j,j<n∧listed.getD j false=false:=by
     apply Classical.byContradiction
     intro hno
     refine hall fun j hj=>?_
     cases hg:listed.getD j false with
     | true=>rfl
     | false=>exact absurd ⟨j,hj,hg⟩ hno
    have hleN:=hF.le
    have hne:Region.ready .any l.toArray listed≠[]:=by
     obtain ⟨j,hj,hg⟩:=hex
     obtain ⟨i,hi⟩:=yB hF inv.size j j hj hg (Nat.le_refl _)
     intro h0
     rw [h0] at hi
     cases hi
    refine ⟨fun h0=>absurd h0 hne,fun i hi=>?_⟩
    rcases Nat.lt_or_ge i n with hin' | hge
    case inr=>exact hesc a hf ha listed fuel w' inv hb' hex hfu i hi hge
    obtain ⟨hun,o,ho,hdeps⟩:=mem_ready.1 hi
    obtain ⟨⟨o',v⟩,hov⟩: ∃ p,hl[i]? =some p:=⟨_,List.getElem?_eq_getElem (by omega)⟩
    have hoo:o'=o:=by
     have h1:=hget i o' v hov
     have h2:l[i]? =some o:=by simpa using ho
     exact Option.some.inj (h1.symm.trans h2)
    subst hoo
    have hLi:listed.getD i false=false:=getD_both hun
    obtain ⟨hexec,hwant⟩:=mM hF.DY ho (Aq hF hdist hget hin inv.closed (a:=a) hov ho hLi hdeps)
    have hstep: ∀ w'',Hb C w'' hs I→wpAny P .any l.toArray Q fuel (listed.setIfInBounds i true) ((puts hl (fun j=>listed.getD j false) 0 a).put o'.dst v) w'':=by
     intro w'' hb''
     rw [wZ hdist hov hLi a]
     have hisz:i<listed.size:=by rw [inv.size,hsize];omega
     rw [eG hl _ (fun j=>(listed.setIfInBounds i true).getD j false) 0 a fun j _=>by
      simp only [Nat.zero_add]
      by_cases hji:j=i
      ·subst hji
       simp [hisz]
      ·rw [getD_set_ne false (Ne.symm hji)]
       have:Nat.beq j i=false:=by
        cases hbq:Nat.beq j i with
        | false=>rfl
        | true=>exact absurd (Nat.eq_of_beq_eq_true hbq) hji
       rw [this]
       simp]
     refine ih _ w'' (inv.set hi hin') hb'' ?_
     have:=sQ (l:=List.range n) (p:=fun i=> !listed.getD i true) (p':=fun j=> !(listed.setIfInBounds i true).getD j true) (fun x _ hx=>by
      by_cases hxi:i=x
      ·subst hxi;simp [hisz] at hx
      ·rwa [getD_set_ne true hxi] at hx) (List.mem_range.2 hin') (by simp [hun]) (by simp [hisz])
     omega
    have hh:=(hhead i o' v hov).1 _ (hfr i (by omega))
    unfold wpOp
    rw [ho]
    simp only
    rcases hh with ⟨hw0,hv0⟩ | ⟨hw1,hrun⟩
    ·rw [hwant,hw0]
     simp only [Bool.false_eq_true,if_false]
     rw [← hv0]
     exact hstep w' hb'
    ·rw [hwant,hw1]
     simp only [if_true]
     refine .inl ?_
     unfold Oper.wp
     rw [hexec]
     have h1:=hrun w' hb'
     generalize (execOp (puts hl (fun j=>decide (j<i)) 0 a).eval o').run P w'=r at h1
     cases r with
     | halt x w2=>exact h1.elim
     | ok x w2=>
      cases x<;>first | exact h1.elim | skip
      ·obtain ⟨rfl,h2⟩:=h1
       exact hstep _ h2
      ·exact Calls.mono h1 fun x w3 hx=>by
        obtain ⟨rfl,h2⟩:=hx
        exact hstep _ h2
 have h0:=main l.toArray.size (Array.replicate l.toArray.size false) { w with drawn:=w.drawn+1 }
  ⟨by simp,fun j oj _ hl'=>(by rw [getD_replicate_false] at hl';cases hl'),fun t _ ht=>getD_in (by simpa using ht) (getD_replicate_false _ _)⟩
  (hb.same rfl rfl rfl rfl) (by
   have h1:=List.countP_le_length (p:=fun i=> !(Array.replicate l.toArray.size false).getD i true) (l:=List.range n)
   simp only [List.length_range] at h1
   have:=hF.le
   omega)
 have h2:puts hl (fun j=>(Array.replicate l.toArray.size false).getD j false) 0 a=a:=by
  rw [eG hl _ (fun _=>false) 0 a fun j _=>by simp only [Nat.zero_add];exact getD_replicate_false _ _]
  have: ∀ (l:List (Oper×Value)) k b,puts l (fun _=>false) k b=b:=fun l=>by
   induction l with
   | nil=>intro k b;rfl
   | cons p r ih=>intro k b;unfold puts;simp [ih]
  exact this _ _ _
 rw [h2] at h0
 exact h0
theorem Fw {l:List Oper} {n:Nat} (h:IA l n):kZ l n:=⟨h.DY,h.le,h.edge,h.xe,h.tail.imp id (·.2)⟩
theorem Sv {l:List Oper} {n:Nat} {hs:List Chunk} {I:World→Prop} (hm:P.follows .mixedOrders=true) (hB:CO l n=true) {hl:List (Oper×Value)} (hmap:hl.map (·.1)=l.take n)
  (hhead: ∀ i o v,hl[i]? =some (o,v)→Head P N C l.toArray (fV hl i e) hs I o v∧ ∃ d,o.dst=some d∧d<N) (hKh: ∀ p∈hl, ∀ a,K a→K (a.put p.1.dst p.2))
  (htail: ∀ a w,Fr a N (fV hl hl.length e)→Hb C w hs I→K a→wpList P l.toArray Q (l.drop n) a w): ∀ a w,Fr a N e→Hb C w hs I→K a→nS P l.toArray Q a w:=by
 have hF:=AZ hB
 refine DU hm (Fw hF) hmap hhead hKh htail fun a _ _ listed fuel w' inv _ hex _ i hi h1=>?_
 exfalso
 have hil:i<l.length:=by
  obtain ⟨_,o,ho,_⟩:=mem_ready.1 hi
  have:=(Array.getElem?_eq_some_iff.1 ho).1
  simpa using this
 rcases hF.tail with h2 | h2
 ·omega
 ·obtain ⟨j,hj,hg⟩:=hex
  have hle:=hF.le
  exact tail_waits h2.1 h2.2 (by simp;omega) inv _ j rfl hj (getD_in (by rw [inv.size];simp;omega) hg) i h1 hi
theorem zW {ops:Array Oper} {listed:Array Bool} (closed: ∀ j oj,ops[j]? =some oj→listed.getD j false=true→ ∀ e∈oj.after,Region.binds .any e=true→listed.getD e.on false=true):
  ∀ f i t,uH ops f i t=true→listed.getD i false=true→listed.getD t false=true
 | 0,i,t,h,hi=>by rw [← Nat.eq_of_beq_eq_true h];exact hi
 | f+1,i,t,h,hi=>by
  unfold uH at h
  rw [Bool.or_eq_true] at h
  rcases h with h | h
  ·rw [← Nat.eq_of_beq_eq_true h];exact hi
  ·split at h
   ·rename_i o ho
    obtain ⟨x,hx,hb⟩:=Array.any_eq_true'.1 h
    rw [Bool.and_eq_true] at hb
    exact zW closed f x.on t hb.2 (closed i o ho hi x hx hb.1)
   ·cases h
structure EY (l:List Oper) (n:Nat) (ob:Oper) (d:Nat):Prop where
 form:kZ l n
 lt:n<l.length
 tail:n+1=l.length∨(Region.sinkB .any l.toArray (n+1)=true∧Region.chainB .any l.toArray (n+1)=true)
 chain:Region.chainB .any l.toArray n=true
 op:l.toArray[n]? =some ob
 gd:ob.guard=none
 bs: ∃ t m ps,ob.op= .buildSlice t m ps
 dst:ob.dst=some d
 ne: ∀ j oj,j<n→l.toArray[j]? =some oj→oj.dst≠some d∧d∉oj.looksAt l.toArray
 quiet: ∀ j oj,j<n→l.toArray[j]? =some oj→oG oj=true∨uH l.toArray n n j=true
 see: ∀ j oj s,j<n→l.toArray[j]? =some oj→oj.dst=some s→s∈ob.looksAt l.toArray→Region.waitsFor .any l.toArray n j=true
theorem yU {l:List Oper} {n:Nat} (h:G7 l n=true): ∃ ob d,EY l n ob d:=by
 unfold G7 at h
 simp only [Bool.and_eq_true,decide_eq_true_eq,Bool.or_eq_true] at h
 obtain ⟨⟨⟨⟨⟨⟨h1,h2⟩,h3⟩,h4⟩,h5⟩,h6⟩,h7⟩:=h
 split at h7
 case h_2=>cases h7
 case h_1 ob hob=>
 simp only [Bool.and_eq_true] at h7
 obtain ⟨⟨h7,h8⟩,h9⟩:=h7
 split at h9
 case h_2=>cases h9
 case h_1 d hd=>
 have h2:n+1≤l.length:=by simpa using h2
 have key: ∀ (j:Nat) (oj:Oper),j<n→l.toArray[j]? =some oj→((oj.dst≠some d∧(oj.looksAt l.toArray).contains d=false)∧(oG oj=true∨uH l.toArray n n j=true))∧(match oj.dst with | some s=> !(ob.looksAt l.toArray).contains s || Region.waitsFor .any l.toArray n j | none=>true)=true:=fun j oj hj hoj=>by
  have h10:=List.all_eq_true.1 h9 j (List.mem_range.2 hj)
  rw [hoj] at h10
  simp only [Bool.and_eq_true,Bool.or_eq_true,Bool.not_eq_true',decide_eq_true_eq] at h10
  exact h10
 refine ⟨ob,d,⟨h1,by omega,fun i o ho x hx hbx=>?_,fun i j oi oj s hi hj hoi hoj hij hds=>?_, .inr h5⟩,by omega,h6.imp (fun h=>by simpa using h) id,h5,hob,by simpa using h7,?_,hd,fun j oj hj hoj=>⟨(key j oj hj hoj).1.1.1,fun hm=>?_⟩,fun j oj hj hoj=>(key j oj hj hoj).1.2,fun j oj s hj hoj hs hm=>?_⟩
 ·have hlt:=(Array.getElem?_eq_some_iff.1 ho).1
  have h6:=List.all_eq_true.1 h3 i (List.mem_range.2 hlt)
  rw [ho] at h6
  have h7:=Array.all_eq_true_iff_forall_mem.1 h6 x hx
  simpa [hbx] using h7
 ·have h6:=List.all_eq_true.1 h4 i (List.mem_range.2 hi)
  have hoi':l.toArray[i]? =some oi:=by simpa using hoi
  have hoj':l.toArray[j]? =some oj:=by simpa using hoj
  rw [hoi'] at h6
  have h7:=List.all_eq_true.1 h6 j (List.mem_range.2 hj)
  rw [hoj'] at h7
  simp only [Bool.or_eq_true,decide_eq_true_eq,hds] at h7
  rcases h7 with h7 | h7
  ·exact absurd h7 hij
  ·simp only [Bool.and_eq_true,Bool.or_eq_true,Bool.not_eq_true',decide_eq_true_eq] at h7
   refine ⟨h7.1,fun hm=>?_⟩
   rcases h7.2 with (h8 | h8) | h8
   ·rw [List.contains_iff_mem.2 hm] at h8
    cases h8
   ·exact .inl h8
   ·exact .inr h8
 ·split at h8
  ·rename_i t m ps ho;exact ⟨t,m,ps,ho⟩
  ·cases h8
 ·have:=(key j oj hj hoj).1.1.2
  rw [List.contains_iff_mem.2 hm] at this
  cases this
 ·have:=(key j oj hj hoj).2
  rw [hs] at this
  simp only [Bool.or_eq_true,Bool.not_eq_true'] at this
  rcases this with this | this
  ·rw [List.contains_iff_mem.2 hm] at this
   cases this
  ·exact this
def Bu (P:Program) (N:Nat) (C:Cx) (ops:Array Oper) (e:Env) (hs:List Chunk) (I:World→Prop) (o:Oper) (v:Value):Prop:=
 ∀ a,Fr a N e→(Region.wanted o (yielded ops a.tmps)=false∧v=undef)∨(Region.wanted o (yielded ops a.tmps)=true∧ ∀ w,Hb C w hs I→(execOp a.eval o).run P w= .ok (.value v) w)
theorem put_comm {a:Act} {d d':Nat} {v v':Value} (h:d≠d'):(a.put (some d) v).put (some d') v'=(a.put (some d') v').put (some d) v:=by
 cases a
 simp only [Act.put]
 rw [Array.setIfInBounds_comm _ _ h]
theorem PH {l:List Oper} {n:Nat} {hs:List Chunk} {I:World→Prop} (hm:P.follows .mixedOrders=true) {ob:Oper} {d:Nat} (hF:EY l n ob d) {hl:List (Oper×Value)} (hmap:hl.map (·.1)=l.take n)
  (hhead: ∀ i o v,hl[i]? =some (o,v)→Head P N C l.toArray (fV hl i e) hs I o v∧ ∃ d,o.dst=some d∧d<N) (hq: ∀ i o v,hl[i]? =some (o,v)→oG o=true→Bu P N C l.toArray (fV hl i e) hs I o v) (hKh: ∀ p∈hl, ∀ a,K a→K (a.put p.1.dst p.2))
  (htail: ∀ a w,Fr a N (fV hl hl.length e)→Hb C w hs I→K a→wpList P l.toArray Q (l.drop n) a w)
  (hnew: ∀ a w,Fr a N (fV hl hl.length e)→Hb C w hs I→K a→ ∃ v w',(execOp a.eval ob).run P w= .ok (.value v) w'∧Ext (fun _=>none) [] w w'∧wpList P l.toArray Q (l.drop (n+1)) (a.put (some d) v) w'):
  ∀ a w,Fr a N e→Hb C w hs I→K a→nS P l.toArray Q a w:=by
 have hF0:=hF.form
 refine DU hm hF0 hmap hhead hKh htail fun a hf ha listed fuel w' inv hb hex hfu i hi hin=>?_
 have hlt:=hF.lt
 have hsize:l.toArray.size=l.length:=by simp
 obtain ⟨hun,o,ho,hdeps⟩:=mem_ready.1 hi
 have hil:=(Array.getElem?_eq_some_iff.1 ho).1
 have hni:i=n:=by
  rcases Nat.lt_or_ge n i with h2 | h2
  ·exfalso
   have h4:=List.all_eq_true.1 hF.chain i (List.mem_range.2 hil)
   simp only [Bool.or_eq_true,decide_eq_true_eq] at h4
   rcases h4 with h4 | h4
   ·omega
   ·obtain ⟨o',ho',x,hx,hbx,hon⟩:=Region.waitsFor_spec h4
    have:o'=o:=Option.some.inj (ho'.symm.trans ho)
    subst this
    have h5:=hdeps x hx hbx
    have h6:=getD_both (inv.tail (i - 1) (by omega) (by omega))
    rw [hon,h6] at h5
    cases h5
  ·omega
 subst hni
 have:o=ob:=Option.some.inj (ho.symm.trans hF.op)
 subst this
 have hlen:hl.length=i:=by
  have:=congrArg List.length hmap
  simp at this
  omega
 have hget: ∀ (j:Nat) (o:Oper) (v:Value),hl[j]? =some (o,v)→l[j]? =some o:=fun j o v hj=>by
  have h1:(hl.map (·.1))[j]? =some o:=by simp [hj]
  rw [hmap,List.getElem?_take] at h1
  split at h1
  ·exact h1
  ·cases h1
 have hinl: ∀ (j:Nat) (o:Oper) (v:Value),hl[j]? =some (o,v)→j<i:=fun j o v hj=>by
  have:=(List.getElem?_eq_some_iff.1 hj).1
  omega
 have hdist:sP hl:=fun j k o v o' v' s hj hk hjk hds=>(hF0.xe k j o' o s (hinl _ _ _ hk) (hinl _ _ _ hj) (hget _ _ _ hk) (hget _ _ _ hj) (Ne.symm hjk) hds).1
 have hfr:=BZ hdist hf fun j o v hj=>(hhead j o v hj).2
 have hfull:=hfr hl.length (Nat.le_refl _)
 have hall: ∀ L:Nat→Bool,(∀ j,j<i→L j=true)→puts hl L 0 a=puts hl (fun j=>decide (j<hl.length)) 0 a:=fun L hL=>eG hl _ _ 0 a fun j hj=>by
  simp only [Nat.zero_add]
  rw [hL j (by omega)]
  simp [hj]
 obtain ⟨v,wB,hrun,hext,hrest⟩:=hnew _ w' hfull hb (LM hKh _ _ _ ha)
 have hsee: ∀ s∈o.looksAt l.toArray,(puts hl (fun j=>listed.getD j false) 0 a).tmps[s]? =(puts hl (fun j=>decide (j<hl.length)) 0 a).tmps[s]? :=fun s hs=>by
  by_cases hssz:s<a.tmps.size
  ·by_cases hex3: ∃ (j:Nat) (oj:Oper) (vj:Value),hl[j]? =some (oj,vj)∧oj.dst=some s
   ·obtain ⟨j,oj,vj,hj,hds⟩:=hex3
    have hjn:=hinl _ _ _ hj
    have h1:=hF.see j oj s hjn (by simpa using hget _ _ _ hj) hds hs
    obtain ⟨o2,ho2,x,hx,hbx,hon⟩:=Region.waitsFor_spec h1
    have:o2=o:=Option.some.inj (ho2.symm.trans ho)
    subst this
    have h2:=hdeps x hx hbx
    rw [hon] at h2
    have hun2: ∀ (k:Nat) (o2:Oper) (v2:Value),hl[k]? =some (o2,v2)→k≠j→o2.dst≠some s:=fun k o2 v2 hk hkj hd2=>hdist k j o2 v2 oj vj s hk hj hkj hd2 hds
    rw [lF hl _ s 0 a j oj vj hj (by simpa using h2) hds hssz hun2,lF hl _ s 0 a j oj vj hj (by simp;omega) hds hssz hun2]
   ·have h3: ∀ (L:Nat→Bool),(puts hl L 0 a).tmps[s]? =a.tmps[s]? :=fun L=>mJ hl L s 0 a fun j oj vj hj _ hds=>hex3 ⟨j,oj,vj,hj,hds⟩
    rw [h3,h3]
  ·have hz: ∀ L:Nat→Bool,(puts hl L 0 a).tmps[s]? =none:=fun L=>by
    have h5:=(iP hl L 0 a).1
    rw [Array.getElem?_eq_none_iff,h5]
    exact Nat.le_of_not_lt hssz
   rw [hz,hz]
 have hbB:Hb C wB hs I:=hb.grow hext
 have hB1:=(mM hF0.DY ho hsee).1
 have main: ∀ (fuel:Nat) (listed:Array Bool),HeadInv .any l.toArray (i+1) listed→listed.getD i false=true→(l.length - (i+1))+(List.range i).countP (fun j=> !listed.getD j true)≤fuel→
   wpAny P .any l.toArray Q fuel listed ((puts hl (fun j=>listed.getD j false) 0 a).put (some d) v) wB:=by
  have done: ∀ (fuel:Nat) (listed:Array Bool),HeadInv .any l.toArray (i+1) listed→listed.getD i false=true→l.length - (i+1)≤fuel→(∀ j,j<i→listed.getD j false=true)→
    wpAny P .any l.toArray Q fuel listed ((puts hl (fun j=>listed.getD j false) 0 a).put (some d) v) wB:=fun fuel listed inv hli hfu hal=>by
   refine tO hF0.edge (.inr hF.chain) fuel (i+1) listed _ wB (by omega) (by rw [hsize];omega) inv.size (fun j hj=>?_) (by rw [hsize];omega) ?_
   ·by_cases hjn:j<i+1
    ·rcases Nat.lt_succ_iff_lt_or_eq.1 hjn with h1 | rfl
     ·rw [hal j h1];simp [hjn]
     ·rw [hli];simp
    ·have h1:=inv.tail j (by omega) hj
     rw [getD_both h1]
     simp [hjn]
   ·rw [hall _ hal]
    exact hrest
  intro fuel
  induction fuel with
  | zero=>
   intro listed inv hli hfu
   refine done 0 listed inv hli (by omega) fun j hj=>?_
   have h1:(List.range i).countP (fun j=> !listed.getD j true)=0:=by omega
   have h2:=List.countP_eq_zero.1 h1 j (List.mem_range.2 hj)
   rw [← l8 (by rw [inv.size,hsize];omega)]
   simpa using h2
  | succ fuel ih=>
   intro listed inv hli hfu
   by_cases hal: ∀ j,j<i→listed.getD j false=true
   ·exact done _ listed inv hli (by omega) hal
   ·have hex: ∃ j,j<i∧listed.getD j false=false:=by
     apply Classical.byContradiction
     intro hno
     refine hal fun j hj=>?_
     cases hg:listed.getD j false with
     | true=>rfl
     | false=>exact absurd ⟨j,hj,hg⟩ hno
    have hready: ∀ k∈Region.ready .any l.toArray listed,k<i:=fun k hk=>by
     obtain ⟨hkun,ok,hok,_⟩:=mem_ready.1 hk
     have hkl:=(Array.getElem?_eq_some_iff.1 hok).1
     rcases Nat.lt_or_ge k i with h1 | h1
     ·exact h1
     ·exfalso
      rcases Nat.lt_or_ge i k with h2 | h2
      ·rcases hF.tail with h3 | h3
       ·omega
       ·obtain ⟨j,hj,hg⟩:=hex
        exact tail_waits h3.1 h3.2 (by rw [hsize];omega) inv _ j rfl (by omega) (getD_in (by rw [inv.size,hsize];omega) hg) k (by omega) hk
      ·have:k=i:=by omega
       subst this
       rw [getD_both hkun] at hli
       cases hli
    have hne:Region.ready .any l.toArray listed≠[]:=by
     obtain ⟨j,hj,hg⟩:=hex
     obtain ⟨k,hk⟩:=yB hF0 inv.size j j hj hg (Nat.le_refl _)
     intro h0
     rw [h0] at hk
     cases hk
    refine ⟨fun h0=>absurd h0 hne,fun k hk=>?_⟩
    have hki:=hready k hk
    obtain ⟨hkun,ok,hok,hkdeps⟩:=mem_ready.1 hk
    obtain ⟨⟨o',vk⟩,hov⟩: ∃ p,hl[k]? =some p:=⟨_,List.getElem?_eq_getElem (by omega)⟩
    have hoo:o'=ok:=by
     have h1:=hget k o' vk hov
     have h2:l[k]? =some ok:=by simpa using hok
     exact Option.some.inj (h1.symm.trans h2)
    subst hoo
    have hLk:listed.getD k false=false:=getD_both hkun
    have hqk:oG o'=true:=by
     rcases hF.quiet k o' hki hok with h1 | h1
     ·exact h1
     ·have:=zW inv.closed i i k h1 hli
      rw [hLk] at this
      cases this
    obtain ⟨hne1,hne2⟩:=hF.ne k o' hki hok
    obtain ⟨dk,hdk,hdkN⟩:=(hhead k o' vk hov).2
    have hdd:dk≠d:=fun e=>hne1 (by rw [hdk,e])
    have hslot: ∀ s∈o'.looksAt l.toArray,((puts hl (fun j=>listed.getD j false) 0 a).put (some d) v).tmps[s]? =(puts hl (fun j=>decide (j<k)) 0 a).tmps[s]? :=fun s hs=>by
     have hsd:d≠s:=fun e=>hne2 (e▸hs)
     rw [← Aq hF0 hdist hget hinl inv.closed (a:=a) hov hok hLk hkdeps s hs]
     simp only [Act.put]
     rw [Array.getElem?_setIfInBounds_ne hsd]
    obtain ⟨hexec,hwant⟩:=mM hF0.DY hok hslot
    have hstep:wpAny P .any l.toArray Q fuel (listed.setIfInBounds k true) (((puts hl (fun j=>listed.getD j false) 0 a).put (some d) v).put o'.dst vk) wB:=by
     rw [hdk,put_comm (Ne.symm hdd), ← hdk,wZ hdist hov hLk a]
     have hksz:k<listed.size:=by rw [inv.size,hsize];omega
     rw [eG hl _ (fun j=>(listed.setIfInBounds k true).getD j false) 0 a fun j _=>by
      simp only [Nat.zero_add]
      by_cases hjk:j=k
      ·subst hjk
       simp [hksz]
      ·rw [getD_set_ne false (Ne.symm hjk)]
       have:Nat.beq j k=false:=by
        cases hbq:Nat.beq j k with
        | false=>rfl
        | true=>exact absurd (Nat.eq_of_beq_eq_true hbq) hjk
       rw [this]
       simp]
     refine ih _ (inv.set hk (by omega)) (by rw [getD_set_ne false (by omega)];exact hli) ?_
     have:=sQ (l:=List.range i) (p:=fun j=> !listed.getD j true) (p':=fun j=> !(listed.setIfInBounds k true).getD j true) (fun x _ hx=>by
      by_cases hxk:k=x
      ·subst hxk;simp [hksz] at hx
      ·rwa [getD_set_ne true hxk] at hx) (List.mem_range.2 hki) (by simp [hkun]) (by simp [hksz])
     omega
    have hh:=hq k o' vk hov hqk _ (hfr k (by omega))
    unfold wpOp
    rw [hok]
    simp only
    rcases hh with ⟨hw0,hv0⟩ | ⟨hw1,hrun1⟩
    ·rw [hwant,hw0]
     simp only [Bool.false_eq_true,if_false]
     rw [← hv0]
     exact hstep
    ·rw [hwant,hw1]
     simp only [if_true]
     refine .inl ?_
     unfold Oper.wp
     rw [hexec,hrun1 wB hbB]
     exact hstep
 unfold wpOp
 rw [ho]
 simp only
 have hwt:Region.wanted o (yielded l.toArray (puts hl (fun j=>listed.getD j false) 0 a).tmps)=true:=by simp [Region.wanted,hF.gd]
 rw [hwt]
 simp only [if_true]
 refine .inl ?_
 unfold Oper.wp
 rw [hB1,hrun]
 show wpAny P .any l.toArray Q fuel (listed.setIfInBounds i true) ((puts hl (fun j=>listed.getD j false) 0 a).put o.dst v) wB
 rw [hF.dst]
 have hisz:i<listed.size:=by rw [inv.size,hsize];omega
 have e1:(puts hl (fun j=>listed.getD j false) 0 a)=puts hl (fun j=>(listed.setIfInBounds i true).getD j false) 0 a:=eG hl _ _ 0 a fun j hj=>by
  simp only [Nat.zero_add]
  rw [getD_set_ne false (by omega)]
 show wpAny P .any l.toArray Q fuel (listed.setIfInBounds i true) ((puts hl (fun j=>listed.getD j false) 0 a).put (some d) v) wB
 rw [e1]
 refine main fuel _ ⟨by simpa using inv.size,fun j oj hoj hlj x hx hbx=>?_,fun t ht htl=>?_⟩ (by simp [hisz]) ?_
 ·by_cases hji:i=j
  ·subst hji
   have:oj=o:=Option.some.inj (hoj.symm.trans ho)
   subst this
   have h1:=hdeps x hx hbx
   by_cases hxi:i=x.on
   ·rw [← hxi];simp [hisz]
   ·rw [getD_set_ne false hxi];exact h1
  ·rw [getD_set_ne false hji] at hlj
   have h1:=inv.closed j oj hoj hlj x hx hbx
   by_cases hxi:i=x.on
   ·rw [← hxi];simp [hisz]
   ·rw [getD_set_ne false hxi];exact h1
 ·rw [getD_set_ne true (by omega)]
  exact inv.tail t (by omega) htl
 ·have:(List.range i).countP (fun j=> !(listed.setIfInBounds i true).getD j true)=(List.range i).countP (fun j=> !listed.getD j true):=List.countP_congr fun x hx=>by
   have:=List.mem_range.1 hx
   rw [getD_set_ne true (by omega)]
  rw [this]
  omega
theorem ay.VZ {l:List (Nat×D)} {hs:List Chunk} (h:ay W l e hs) {k:Nat} {d:D} {v:Value} (hk: ∀ d',Lf.look l k=some d'→ ∀ v h,DR W d' v h→h=[]) (hv:DR W d v []):ay W (aQ l k d) (aQ e k v) hs:=by
 induction h with
 | nil=>exact ay.cons (h:=[]) hv .nil
 | @cons k' d' v' h hs l e h1 h2 ih=>
  rw [aJ,aJ]
  split
  ·rename_i he
   have:=hk d' (by rw [au,if_pos he]) v' h h1
   subst this
   exact .cons hv h2
  ·rename_i he
   exact .cons h1 (ih fun d2 h2=>hk d2 (by rw [au,if_neg he];exact h2))
theorem Iz {φ:bL}: ∀ {l l':List Dn} {vs:List Value} {h:List Chunk},BA l=some l'→ji φ l' vs h→h=[]
 | [],l',vs,h,e,ht=>by
  simp only [BA,Option.some.injEq] at e
  subst e
  cases ht
  rfl
 | ⟨t,x⟩::l,l',vs,h,e,ht=>by
  unfold BA at e
  split at e
  case h_2=>cases e
  case h_1 y m hy hm=>
  simp only [Option.some.injEq] at e
  subst e
  cases ht with
  | cons h1 h2 h3=>
   have e1:=Rp.aP (Ty.f_ t).symm h2
   have e2:=Iz hm h3
   rw [e1,e2];rfl
theorem zV {d:D} {v:Value} {h:List Chunk} (hd:DR W d.j5 v h):h=[]:=by
 cases d with
 | v t x=>
  unfold D.j5 at hd
  cases hc:coe t t.er x with
  | none=>simp only [hc] at hd;exact hd
  | some y=>
   simp only [hc] at hd
   obtain ⟨cs,_,_,h3⟩:=hd
   exact Rp.aP (Ty.f_ t).symm h3
 | BQ l=>
  unfold D.j5 at hd
  cases hc:BA l with
  | none=>simp only [hc] at hd;exact hd
  | some m=>
   simp only [hc] at hd
   obtain ⟨vs,_,h3⟩:=hd
   exact Iz hc h3
 | und=>exact hd
 | uW=>exact hd.2
 | Es=>exact hd.2
 | RO=>exact hd.2
 | EF=>exact hd.2
 | ref j p o=>exact hd.2
 | sJ j p o=>exact hd.2
 | MK te j p o=>exact hd.2
 | NQ j p o k n=>exact hd.2
 | zR g n l=>exact hd.2
 | Ca t x=>obtain ⟨_,_,_,_,_,h⟩:=hd;exact h
 | bO j p o=>exact hd.2
 | xZ j p o n z q qo=>obtain ⟨_,_,_,_,_,h⟩:=hd;exact h
 | xV j p o n z q qo=>exact hd.2
 | fn f=>exact hd.2
def cK (W:d_) (l:List (Nat×D)) (k:Nat):Prop:= ∀ d',look l k=some d'→ ∀ v h,DR W d' v h→h=[]
theorem jG {α:Type} {l:List (Nat×α)} {k j:Nat} {v:α} (h:j≠k):look (aQ l k v) j=look l j:=by
 induction l with
 | nil=>rw [aQ,au,if_neg fun e=>h e.symm]
 | cons p r ih=>
  rw [show p=(p.1,p.2) from rfl,aJ]
  split
  ·rename_i he
   rw [au,au,if_neg fun e=>h e.symm,if_neg fun e=>h (e.symm.trans he)]
  ·rw [au,au,ih]
theorem cK.put {l:List (Nat×D)} {j k:Nat} {d:D} (h:cK W l j):cK W (aQ l k d.j5) j:=fun d' hd' v hh hdr=>by
 by_cases he:j=k
 ·subst he
  rw [qy] at hd'
  simp only [Option.some.injEq] at hd'
  subst hd'
  exact zV hdr
 ·rw [jG he] at hd'
  exact h d' hd' v hh hdr
theorem kT: ∀ (ops:List Oper) (l:List (Nat×D)) (j:Nat),cK W l j→cK W (strips ops l) j
 | [],_,_,h=>h
 | o::r,l,j,h=>by
  unfold strips
  split
  ·split
   ·exact kT r _ j h.put
   ·exact kT r _ j h
  ·exact kT r _ j h
theorem lq: ∀ (ops:List Oper) (l:List (Nat×D)) (hs:List Chunk),ay W l e hs→ ∃ hs',ay W (strips ops l) e hs'∧Sub hs hs'∧ ∀ o∈ops, ∀ d,o.dst=some d→cK W (strips ops l) d
 | [],l,hs,h=>⟨hs,h,Sub.refl _,by simp⟩
 | o::r,l,hs,h=>by
  unfold strips
  split
  ·rename_i d hd
   split
   ·rename_i x hx
    obtain ⟨v,h1,eh',q1,q2,q3,q4⟩:=h.strip hx
    obtain ⟨hs',g1,g2,g3⟩:=lq r _ _ q3
    refine ⟨hs',g1,(q4.trans Sub.right).trans g2,fun o' ho' d' hd'=>?_⟩
    rcases List.mem_cons.1 ho' with rfl | ho'
    ·rw [hd] at hd'
     injection hd' with hd'
     subst hd'
     refine kT r _ _ fun d' hd' v hh hdr=>?_
     rw [qy] at hd'
     simp only [Option.some.injEq] at hd'
     subst hd'
     exact zV hdr
    ·exact g3 o' ho' d' hd'
   ·rename_i hx
    obtain ⟨hs',g1,g2,g3⟩:=lq r _ _ h
    refine ⟨hs',g1,g2,fun o' ho' d' hd'=>?_⟩
    rcases List.mem_cons.1 ho' with rfl | ho'
    ·rw [hd] at hd'
     injection hd' with hd'
     subst hd'
     exact kT r _ _ fun d' hd'=>by rw [hx] at hd';cases hd'
    ·exact g3 o' ho' d' hd'
  ·rename_i hd
   obtain ⟨hs',g1,g2,g3⟩:=lq r _ _ h
   refine ⟨hs',g1,g2,fun o' ho' d' hd'=>?_⟩
   rcases List.mem_cons.1 ho' with rfl | ho'
   ·rw [hd] at hd';cases hd'
   ·exact g3 o' ho' d' hd'
theorem AJ {o:Oper} (h:(kY c o || EW c o)=true): ∃ d,o.dst=some d:=by
 cases hd:o.dst with
 | some d=>exact ⟨d,rfl⟩
 | none=>
  unfold kY EW at h
  rw [hd] at h
  cases h
def IP (a b:List Chunk):Prop:=Sub a b∧Sub b a
theorem IP.perm {a b:List Chunk} (p:a.Perm b):IP a b:=⟨Sub.perm p,Sub.perm p.symm⟩
theorem IP.trans {a b d:List Chunk} (h:IP a b) (h':IP b d):IP a d:=⟨h.1.trans h'.1,h'.2.trans h.2⟩
theorem ay.Uh {l:List (Nat×D)} {hs:List Chunk} (h:ay W l e hs) {k:Nat} {d:D} (hk:Lf.look l k=some d):
  ∃ v h1 eh',rW e k v∧DR W d v h1∧ay W (aQ l k d.j5) e eh'∧hs.Perm (h1++eh'):=by
 induction h with
 | nil=>cases hk
 | @cons k' d' v h hs l e h1 h2 ih=>
  rw [au] at hk
  split at hk
  ·rename_i hkk
   subst hkk
   simp only [Option.some.injEq] at hk
   subst hk
   refine ⟨v,h,[]++hs, .here,h1,?_,by simp⟩
   rw [aJ,if_pos rfl]
   exact .cons (vY h1) h2
  ·rename_i hkk
   obtain ⟨v',h3,eh',q1,q2,q4,q5⟩:=ih hk
   refine ⟨v',h3,h++eh', .there q1,q2,?_,(q5.append_left h).trans (List.perm_append_comm_assoc _ _ _)⟩
   rw [aJ,if_neg hkk]
   exact .cons h1 q4
theorem ay.WG {l:List (Nat×D)} {hs:List Chunk} (h:ay W l e hs) {k:Nat} {d:D} {v:Value} {hd:List Chunk} (hk:cK W l k) (hv:DR W d v hd): ∃ hs',ay W (aQ l k d) (aQ e k v) hs'∧(hd++hs).Perm hs':=by
 induction h with
 | nil=>exact ⟨hd++[],ay.cons hv .nil,List.Perm.refl _⟩
 | @cons k' d' v' h hs l e h1 h2 ih=>
  rw [aJ,aJ]
  split
  ·rename_i he
   have:=hk d' (by rw [au,if_pos he]) v' h h1
   subst this
   exact ⟨hd++hs, .cons hv h2,by simp⟩
  ·rename_i he
   obtain ⟨hs',q1,q2⟩:=ih fun d2 h2=>hk d2 (by rw [au,if_neg he];exact h2)
   exact ⟨h++hs', .cons h1 q1,(List.perm_append_comm_assoc _ _ _).trans (q2.append_left h)⟩
theorem Ao (hs:aZ S W e eh oh) {x:Operand} {d:D} (hx:S.raw x=d) (hne:d≠ .und):
  ∃ v h eh',EV e x v∧DR W d v h∧aZ (S.strip x) W e eh' oh∧eh.Perm (h++eh')∧ ∀ j,cK W S.env j→cK W (S.strip x).env j:=by
 cases x with
 | tmp s=>
  cases hl:look S.env s with
  | none=>simp only [St.raw,hl] at hx;exact absurd hx.symm hne
  | some d'=>
   have hx:d'=d:=by simpa only [St.raw,hl] using hx
   subst hx
   have e1:S.strip (.tmp s)=S.put s d'.j5:=by simp only [St.strip,hl]
   rw [e1]
   obtain ⟨v,h1,eh',q1,q2,q4,q5⟩:=hs.env.Uh hl
   exact ⟨v,h1,eh', .t q1,q2,⟨q4,hs.l9,hs.nd⟩,q5,fun j hj=>hj.put⟩
 | const v=>
  have hx':uh v=d:=hx
  have h1:=zL (W:=W) v (by rw [hx'];exact hne)
  rw [hx'] at h1
  exact ⟨v,[],eh, .c,h1,hs,by simp,fun _ h=>h⟩
 | global g=>exact absurd hx.symm hne
 | func f=>
  have hx':D.fn f=d:=hx
  subst hx'
  exact ⟨_,[],eh, .f,⟨rfl,rfl⟩,hs,by simp,fun _ h=>h⟩
theorem cK.kill {l:List (Nat×D)} {k j o n:Nat} (h:cK W l k):cK W (jB j o n l) k:=by
 intro d' hd' v hh hdr
 have key: ∀ l:List (Nat×D),look (jB j o n l) k=some d'→d'= .und∨look l k=some d':=fun l=>by
  induction l with
  | nil=>intro h;cases h
  | cons p r ih=>
   obtain ⟨i,d⟩:=p
   intro h
   have go: ∀ d2,jB j o n ((i,d)::r)=(i,d2)::jB j o n r→(d2=d∨d2= .und)→d'= .und∨look ((i,d)::r) k=some d':=fun d2 e1 e2=>by
    rw [e1,au] at h
    rw [au]
    split at h
    ·rename_i hik
     simp only [Option.some.injEq] at h
     rw [if_pos hik]
     rcases e2 with e2 | e2
     ·right;rw [← e2,h]
     ·left;rw [← h,e2]
    ·rename_i hik
     rw [if_neg hik]
     exact ih h
   cases d with
   | bO j' p o'=>
    refine go _ rfl ?_
    cases (Nat.beq j j' && Nat.ble o o' && Nat.blt o' (o+n))<;>simp
   | xZ j' p o' m z q qo=>
    refine go _ rfl ?_
    cases (Nat.beq j j' && Nat.ble o o' && Nat.blt o' (o+n))<;>simp
   | _=>exact go _ rfl (.inl rfl)
 rcases key l hd' with rfl | h1
 ·exact hdr
 ·exact h d' h1 v hh hdr
theorem Qd (hc:aO P G c) (hn:c.n=N) {o:Oper} {d:Nat} (hd:o.dst=some d) (hm:EW c o=true) {k:St→Option Rt} (h:oF c o S k=some r) (hs:aZ S W e eh oh) (hnil:cK W S.env d):
  ∃ S' v eh' oh',k S'=some r∧d<N∧aZ S' W (aQ e d v) eh' oh'∧IP (eh++oh) (eh'++oh')∧(∀ j,j≠d→cK W S.env j→cK W S'.env j)∧
   ∀ a w,Fr a N e→Hb C w (eh++oh) (Inv G W.φ)→(execOp a.eval o).run P w= .ok (.value v) w:=by
 have fin: ∀ (S1:St) (D':D) (v:Value) (hh eh1 oh1:List Chunk),out c o S1 D' k=some r→aZ S1 W e eh1 oh1→DR W D' v hh→IP (eh++oh) (hh++(eh1++oh1))→cK W S1.env d→(∀ j,cK W S.env j→cK W S1.env j)→(∀ a w,Fr a N e→Hb C w (eh++oh) (Inv G W.φ)→(execOp a.eval o).run P w= .ok (.value v) w)→
   ∃ S' v eh' oh',k S'=some r∧d<N∧aZ S' W (aQ e d v) eh' oh'∧IP (eh++oh) (eh'++oh')∧(∀ j,j≠d→cK W S.env j→cK W S'.env j)∧ ∀ a w,Fr a N e→Hb C w (eh++oh) (Inv G W.φ)→(execOp a.eval o).run P w= .ok (.value v) w:=fun S1 D' v hh eh1 oh1 h1 h2 h3 h4 h5 h6 h7=>by
  unfold out at h1
  rw [hd] at h1
  simp only at h1
  cases hb:Nat.blt d c.n with
  | false=>rw [hb] at h1;cases h1
  | true=>
   rw [hb] at h1
   obtain ⟨hs',q1,q2⟩:=h2.env.WG h5 h3
   refine ⟨S1.put d D',v,hs',oh1,h1,hn▸j_ hb,⟨q1,h2.l9,h2.nd⟩,h4.trans (.perm ?_),fun j hj hnj=>?_,h7⟩
   ·rw [← List.append_assoc];exact q2.append_right oh1
   ·intro D2 hD2
    rw [show (S1.put d D').env=aQ S1.env d D' from rfl,jG hj] at hD2
    exact h6 j hnj D2 hD2
 have mv: ∀ x,(∀ (a:Act) w v,a.eval x=v→(execOp a.eval o).run P w= .ok (.value v) w)→zl c o S x k=some r→(∀ el t,look c.own d≠some (.mr el t))→(∀ t,look c.own d≠some (.on t))→ ∃ S' v eh' oh',k S'=some r∧d<N∧aZ S' W (aQ e d v) eh' oh'∧IP (eh++oh) (eh'++oh')∧(∀ j,j≠d→cK W S.env j→cK W S'.env j)∧ ∀ a w,Fr a N e→Hb C w (eh++oh) (Inv G W.φ)→(execOp a.eval o).run P w= .ok (.value v) w:=fun x ex h2 hno hno2=>by
  unfold zl at h2
  rw [hd] at h2
  simp only at h2
  split at h2
  ·rename_i ho;exact absurd ho (hno _ _)
  ·rename_i el t hx ho
   obtain ⟨v,hh,rr,q1,q2,q3⟩:=fZ hs.env (x:=x) (by rw [hx];intro e;cases e)
   rw [hx] at q2
   obtain ⟨rfl,rfl⟩:=q2
   refine fin S _ _ [.row true (.slice none 0 0) el t.size 0 []] eh oh h2 hs ⟨[.slice none 0 0],rfl,rfl,none,0,[],rfl,Nat.le_refl _, .nil,fun h=>absurd h (by simp),rfl⟩ ⟨?_,?_⟩ hnil (fun _ h=>h) fun a w hf _=>ex a w _ (hf.ev q1)
   ·simpa using Sub.app (Sub.mZ true el t.size) (Sub.refl (eh++oh))
   ·exact Sub.right (a:=[_])
  ·rename_i ho;exact absurd ho (hno2 _)
  ·rename_i ho;exact absurd ho (hno2 _)
  ·rename_i ho;exact absurd ho (hno2 _)
  ·rename_i t y hx n1 n2
   clear n1 n2
   have h2:out c o (S.strip x) (.v t y) k=some r:=by
    unfold Ke at h2
    split at h2
    ·rename_i d' hd'
     have hdd:d'=d:=Option.some.inj (hd'.symm.trans hd)
     subst hdd
     split at h2
     ·rename_i ho;exact absurd ho (hno _ _)
     ·exact h2
    ·exact h2
   obtain ⟨v,hh,eh',q1,q2,q3,q4,q5⟩:=Ao hs hx (by intro e;cases e)
   refine fin _ _ _ hh eh' oh h2 q3 q2 (.perm ?_) (q5 d hnil) q5 fun a w hf _=>ex a w _ (hf.ev q1)
   rw [← List.append_assoc];exact q4.append_right oh
  ·rename_i l hx
   obtain ⟨v,hh,eh',q1,q2,q3,q4,q5⟩:=Ao hs hx (by intro e;cases e)
   refine fin _ _ _ hh eh' oh h2 q3 q2 (.perm ?_) (q5 d hnil) q5 fun a w hf _=>ex a w _ (hf.ev q1)
   rw [← List.append_assoc];exact q4.append_right oh
  ·rename_i j p off hx
   obtain ⟨v,hh,eh',q1,q2,q3,q4,q5⟩:=Ao hs hx (by intro e;cases e)
   refine fin _ _ _ hh eh' oh h2 q3 q2 (.perm ?_) (q5 d hnil) q5 fun a w hf _=>ex a w _ (hf.ev q1)
   rw [← List.append_assoc];exact q4.append_right oh
  ·cases h2
 unfold EW at hm
 rw [hd] at hm
 simp only at hm
 cases hv:kY c o with
 | true=>rw [hv] at hm;cases hm
 | false=>
 rw [hv] at hm
 simp only [cond_false] at hm
 split at hm
 case h_1=>cases hm
 case h_2=>cases hm
 case h_3 hno hno2=>
 obtain ⟨dst,op,ty,pos,af,gd⟩:=o
 cases op with
 | move x=>exact mv x (fun a w v e=>by subst e;rfl) h hno hno2
 | assign x=>exact mv x (fun a w v e=>by subst e;rfl) h hno hno2
 | load tid x=>
  have h:loadT c ⟨dst, .load tid x,ty,pos,af,gd⟩ S tid k (S.get x)=some r:=h
  generalize hx:S.get x=dx at h
  have h':=h
  unfold loadT at h
  split at h
  case h_3=>cases h
  case h_1 j p off n sz q qo=>
   obtain ⟨S1,D',q1,q2,q3⟩:=Jv (N:=N) (C:=C) hc rfl hx h'
   obtain ⟨v,hh,oh1,g1,g2,g3,g4⟩:=q3 W e eh oh hs
   exact fin S1 D' v hh eh oh1 q1 g1 g2 (IP.perm g3) (by rw [q2];exact hnil) (fun j hj=>by rw [q2];exact hj) g4
  case h_2 j p off=>
  split at h<;>first | cases h | skip
  rename_i t y i hat hi
  split at h
  case isFalse=>cases h
  case isTrue he=>
  cases htop:t.top with
  | false=>rw [htop] at h;cases h
  | true=>
  rw [htop] at h
  simp only [cond_true] at h
  split at h
  case h_2=>cases h
  case h_1 y' hy=>
  split at h
  case h_2=>cases h
  case h_1 S1 hset=>
  obtain ⟨mid,hmm,oh',r1,r2,r3,r4⟩:=Lh (C:=C) (G:=G) (hc.ty _ _ hi) hat he htop hy hset hs
  have hS1: ∀ j,cK W S.env j→cK W S1.env j:=fun i hi=>by
   unfold St.w9 at hset
   split at hset
   case h_2=>cases hset
   case h_1 ob _=>
   cases hb:Nat.beq (aH ob.t p) off with
   | false=>rw [hb] at hset;cases hset
   | true=>
   rw [hb] at hset
   simp only [cond_true] at hset
   split at hset
   case h_2=>cases hset
   case h_1 z _=>
   simp only [Option.some.injEq] at hset
   subst hset
   exact hi.kill
  refine fin S1 _ (sv t mid) hmm eh oh' h r2 ⟨mid,htop,rfl,r1⟩ (.perm ?_) (hS1 d hnil) hS1 fun a w hf hb=>?_
  ·exact (List.Perm.append_left eh r3).trans (List.perm_append_comm_assoc _ _ _)
  ·have h1:=hf.ev (bI hs.env hx)
   simp [execOp,h1,Instr.loadAt,Instr.sureAddr,r4 w hb]
 | _=>cases hm
theorem yT (hc:aO P G c) (hn:c.n=N) {all tail:List Oper} {hs0:List Chunk}: ∀ (heads:List Oper) (S:St) (e:Env) (eh oh:List Chunk),opsE c all (heads++tail) S k=some r→(∀ o∈heads,(kY c o || EW c o)=true)→aZ S W e eh oh→IP hs0 (eh++oh)→(∀ o∈heads, ∀ d,o.dst=some d→cK W S.env d)→(heads.map (·.dst)).Nodup→
  ∃ hl:List (Oper×Value),hl.map (·.1)=heads∧(∀ i o v,hl[i]? =some (o,v)→(Head P N C all.toArray (fV hl i e) hs0 (Inv G W.φ) o v∧(oG o=true→Bu P N C all.toArray (fV hl i e) hs0 (Inv G W.φ) o v))∧ ∃ d,o.dst=some d∧d<N)∧
   ∃ S' eh' oh',opsE c all tail S' k=some r∧aZ S' W (fV hl hl.length e) eh' oh'∧IP hs0 (eh'++oh')∧(∀ j,(∀ o∈heads,o.dst≠some j)→cK W S.env j→cK W S'.env j)∧((∀ o∈heads,kY c o=true)→eh'=eh∧oh'=oh)
 | [],S,e,eh,oh,h,_,hs,hq,_,_=>⟨[],rfl,by simp,S,eh,oh,h,hs,hq,fun _ _ h=>h,fun _=>⟨rfl,rfl⟩⟩
 | o::heads,S,e,eh,oh,h,hv,hs,hq,hnil,hnd=>by
  simp only [List.map_cons,List.nodup_cons] at hnd
  obtain ⟨d,hd⟩:=AJ (hv o List.mem_cons_self)
  have hne: ∀ o'∈heads, ∀ d',o'.dst=some d'→d'≠d:=fun o' ho' d' hd' e=>hnd.1 (List.mem_map.2 ⟨o',ho',by rw [hd',hd,e]⟩)
  have go: ∀ (S2:St) (v:Value) (eh2 oh2:List Chunk),opsE c all (heads++tail) S2 k=some r→aZ S2 W (aQ e d v) eh2 oh2→IP hs0 (eh2++oh2)→(∀ j,j≠d→cK W S.env j→cK W S2.env j)→(kY c o=true→eh2=eh∧oh2=oh)→d<N→(Head P N C all.toArray e hs0 (Inv G W.φ) o v∧(oG o=true→Bu P N C all.toArray e hs0 (Inv G W.φ) o v))→
    ∃ hl:List (Oper×Value),hl.map (·.1)=o::heads∧(∀ i o v,hl[i]? =some (o,v)→(Head P N C all.toArray (fV hl i e) hs0 (Inv G W.φ) o v∧(oG o=true→Bu P N C all.toArray (fV hl i e) hs0 (Inv G W.φ) o v))∧ ∃ d,o.dst=some d∧d<N)∧
     ∃ S' eh' oh',opsE c all tail S' k=some r∧aZ S' W (fV hl hl.length e) eh' oh'∧IP hs0 (eh'++oh')∧(∀ j,(∀ o'∈o::heads,o'.dst≠some j)→cK W S.env j→cK W S'.env j)∧((∀ o'∈o::heads,kY c o'=true)→eh'=eh∧oh'=oh):=fun S2 v eh2 oh2 h2 hs2 hq2 hn2 hsm hdN hh=>by
   obtain ⟨hl,q1,q2,q3⟩:=yT hc hn heads S2 (aQ e d v) eh2 oh2 h2 (fun o ho=>hv o (List.mem_cons_of_mem _ ho)) hs2 hq2 (fun o' ho' d' hd'=>hn2 d' (hne o' ho' d' hd') (hnil o' (List.mem_cons_of_mem _ ho') d' hd')) hnd.2
   have hput:OZ e o.dst v=aQ e d v:=by rw [hd];rfl
   refine ⟨(o,v)::hl,by simp [q1],fun i o' v' hi=>?_,?_⟩
   ·cases i with
    | zero=>
     simp only [List.getElem?_cons_zero,Option.some.injEq,Prod.mk.injEq] at hi
     obtain ⟨rfl,rfl⟩:=hi
     exact ⟨hh,d,hd,hdN⟩
    | succ i=>
     have:=q2 i o' v' (by simpa using hi)
     simpa [fV,hput] using this
   ·obtain ⟨S',eh',oh',g1,g2,g3⟩:=q3
    exact ⟨S',eh',oh',g1,by simpa [fV,hput] using g2,g3.1,fun j hj hnj=>g3.2.1 j (fun o' ho'=>hj o' (List.mem_cons_of_mem _ ho')) (hn2 j (fun e=>hj o List.mem_cons_self (by rw [hd,e])) hnj),fun hv2=>⟨(g3.2.2 fun o' ho'=>hv2 o' (List.mem_cons_of_mem _ ho')).1.trans (hsm (hv2 o List.mem_cons_self)).1,(g3.2.2 fun o' ho'=>hv2 o' (List.mem_cons_of_mem _ ho')).2.trans (hsm (hv2 o List.mem_cons_self)).2⟩⟩
  have go0: ∀ (dD:D) (v:Value),opsE c all (heads++tail) (S.put d dD) k=some r→DR W dD v []→d<N→(Head P N C all.toArray e hs0 (Inv G W.φ) o v∧(oG o=true→Bu P N C all.toArray e hs0 (Inv G W.φ) o v))→
    ∃ hl:List (Oper×Value),hl.map (·.1)=o::heads∧(∀ i o v,hl[i]? =some (o,v)→(Head P N C all.toArray (fV hl i e) hs0 (Inv G W.φ) o v∧(oG o=true→Bu P N C all.toArray (fV hl i e) hs0 (Inv G W.φ) o v))∧ ∃ d,o.dst=some d∧d<N)∧
     ∃ S' eh' oh',opsE c all tail S' k=some r∧aZ S' W (fV hl hl.length e) eh' oh'∧IP hs0 (eh'++oh')∧(∀ j,(∀ o'∈o::heads,o'.dst≠some j)→cK W S.env j→cK W S'.env j)∧((∀ o'∈o::heads,kY c o'=true)→eh'=eh∧oh'=oh):=fun dD v h2 hdr hdN hh=>
   go (S.put d dD) v eh oh h2 ⟨hs.env.VZ (hnil o List.mem_cons_self d hd) hdr,hs.l9,hs.nd⟩ hq (fun j hj hnj D' hD'=>hnj D' (by rw [show (S.put d dD).env=aQ S.env d dD from rfl,jG hj] at hD';exact hD')) (fun _=>⟨rfl,rfl⟩) hdN hh
  have yes:F8 c o S (fun S'=>opsE c all (heads++tail) S' k)=some r→(∀ a,Fr a N e→Region.wanted o (yielded all.toArray a.tmps)=true)→ ∃ hl:List (Oper×Value),hl.map (·.1)=o::heads∧(∀ i o v,hl[i]? =some (o,v)→(Head P N C all.toArray (fV hl i e) hs0 (Inv G W.φ) o v∧(oG o=true→Bu P N C all.toArray (fV hl i e) hs0 (Inv G W.φ) o v))∧ ∃ d,o.dst=some d∧d<N)∧
     ∃ S' eh' oh',opsE c all tail S' k=some r∧aZ S' W (fV hl hl.length e) eh' oh'∧IP hs0 (eh'++oh')∧(∀ j,(∀ o'∈o::heads,o'.dst≠some j)→cK W S.env j→cK W S'.env j)∧((∀ o'∈o::heads,kY c o'=true)→eh'=eh∧oh'=oh):=fun h2 hw=>by
   unfold F8 at h2
   have hvo:=hv o List.mem_cons_self
   cases hval:kY c o with
   | false=>
    rw [hval] at h2 hvo
    obtain ⟨S2,v,eh2,oh2,g1,g2,g3,g4,g5,g6⟩:=Qd (N:=N) (C:=C) hc hn hd (by simpa using hvo) h2 hs (hnil o List.mem_cons_self d hd)
    refine go S2 v eh2 oh2 g1 g3 (hq.trans g4) g5 (fun e=>by rw [hval] at e;cases e) g2 ⟨fun a hf=> .inr ⟨hw a hf,fun w hb=>?_⟩,fun _ a hf=> .inr ⟨hw a hf,fun w hb=>g6 a w hf (hq.1.hb hb)⟩⟩
    rw [g6 a w hf (hq.1.hb hb)]
    exact ⟨rfl,hb⟩
   | true=>
   rw [hval] at h2
   cases hqo:Cm o.op with
   | true=>
    obtain ⟨dD,h3,h4⟩:=K9 (N:=N) (C:=C) hc hqo h2
    unfold out at h3
    rw [hd] at h3
    simp only at h3
    cases hb:Nat.blt d c.n with
    | false=>rw [hb] at h3;cases h3
    | true=>
     rw [hb] at h3
     obtain ⟨v,g1,g2⟩:=h4 W e eh oh hs
     have hr: ∀ a w,Fr a N e→Hb C w hs0 (Inv G W.φ)→(execOp a.eval o).run P w= .ok (.value v) w:=fun a w hf hb=>g2 o.dst o.type o.pos o.after o.guard a w hf (hq.1.hb hb)
     refine go0 dD v h3 g1 (hn▸j_ hb) ⟨fun a hf=> .inr ⟨hw a hf,fun w hb=>?_⟩,fun _ a hf=> .inr ⟨hw a hf,fun w hb=>hr a w hf hb⟩⟩
     rw [hr a w hf hb]
     exact ⟨rfl,hb⟩
   | false=>
   obtain ⟨dD,h3,h4⟩:=FQ (N:=N) (C:=C) hc h2
   unfold out at h3
   rw [hd] at h3
   simp only at h3
   cases hb:Nat.blt d c.n with
   | false=>rw [hb] at h3;cases h3
   | true=>
    rw [hb] at h3
    obtain ⟨v,g1,g2⟩:=h4 W e eh oh hs
    refine go0 dD v h3 g1 (hn▸j_ hb) ⟨fun a hf=> .inr ⟨hw a hf,fun w hb=>?_⟩,fun hqb=>absurd (show Cm o.op=true from hqb) (by rw [hqo];simp)⟩
    have h5:=g2 o.dst o.type o.pos o.after o.guard a w hf (hq.1.hb hb)
    generalize (execOp a.eval ⟨o.dst,o.op,o.type,o.pos,o.after,o.guard⟩).run P w=x at h5
    cases x with
    | halt x w2=>exact h5.elim
    | ok x w2=>
     cases x<;>first | exact h5.elim | skip
     ·exact ⟨h5.1,hq.2.hb h5.2⟩
     ·exact Calls.mono h5 fun y w3 hy=>⟨hy.1,hq.2.hb hy.2⟩
  rw [List.cons_append] at h
  unfold opsE at h
  split at h
  ·rename_i hg
   exact yes h fun a _=>by simp [Region.wanted,hg]
  ·rename_i j want hg
   split at h
   case h_2=>cases h
   case h_1 s d' hs' hd'=>
   have hdd:d'=d:=by rw [hd] at hd';injection hd' with hd';exact hd'.symm
   subst hdd
   split at h
   ·rename_i b hl
    obtain ⟨v,h',_,g1,g2,_⟩:=hs.env.look hl
    obtain ⟨cs,_,g3,g4⟩:=g2
    obtain ⟨rfl,_⟩:=g4
    subst g3
    have hw: ∀ a,Fr a N e→Region.wanted o (yielded all.toArray a.tmps)=((b:Bool) ==want):=fun a hf=>wL hf hg (nA hs') (b:=b) g1
    have hb:(bif want then b else !b)=(b ==want):=by cases want<;>cases (b:Bool)<;>rfl
    rw [hb] at h
    cases hbw:((b:Bool) ==want) with
    | true=>
     rw [hbw] at h
     have hbe:b=want:=by simpa using hbw
     have e1:S.put s (bR want)=S:=by
      unfold St.put
      rw [qx (by rw [← sV hbe];exact hl)]
     rw [e1] at h
     exact yes h fun a hf=>(hw a hf).trans hbw
    | false=>
     rw [hbw] at h
     have hbe:b= !want:=by cases want<;>cases (b:Bool)<;>simp_all
     have e1:S.put s (bR (!want))=S:=by
      unfold St.put
      rw [qx (by rw [← sV hbe];exact hl)]
     rw [e1] at h
     simp only [cond_false] at h
     cases hb2:Nat.blt d' c.n with
     | false=>rw [hb2] at h;cases h
     | true=>
      rw [hb2] at h
      exact go0 .EF undef h ⟨rfl,rfl⟩ (hn▸j_ hb2) ⟨fun a hf=> .inl ⟨(hw a hf).trans hbw,rfl⟩,fun _ a hf=> .inl ⟨(hw a hf).trans hbw,rfl⟩⟩
   ·rename_i hl
    obtain ⟨v,h',_,g1,g2,_⟩:=hs.env.look hl
    obtain ⟨rfl,_⟩:=g2
    cases hb2:Nat.blt d' c.n with
    | false=>rw [hb2] at h;cases h
    | true=>
     rw [hb2] at h
     exact go0 .EF undef h ⟨rfl,rfl⟩ (hn▸j_ hb2) ⟨fun a hf=> .inl ⟨p8 hf hg (nA hs') g1,rfl⟩,fun _ a hf=> .inl ⟨p8 hf hg (nA hs') g1,rfl⟩⟩
   ·cases h
theorem zB {l:List Oper} {n:Nat} (hF:kZ l n) (hd: ∀ o∈l.take n, ∃ d,o.dst=some d):((l.take n).map (·.dst)).Nodup:=by
 rw [List.nodup_iff_pairwise_ne,List.pairwise_iff_getElem]
 intro i j hi hj hij
 simp only [List.length_map,List.length_take] at hi hj
 simp only [List.getElem_map,List.getElem_take]
 obtain ⟨d,hdd⟩:=hd (l[j]'(by omega)) (by
  rw [List.mem_iff_getElem]
  exact ⟨j,by simp only [List.length_take];omega,by simp⟩)
 rw [hdd]
 exact (hF.xe i j _ _ d (by omega) (by omega) (List.getElem?_eq_getElem (by omega)) (List.getElem?_eq_getElem (by omega)) (by omega) hdd).1
theorem Om (hm:P.follows .mixedOrders=true) (hc:aO P G c) (hn:c.n=N) {ops:Array Oper} {an:qZ} (hns: ∀ n,an≠ .jg n) (hns2: ∀ n,an≠ .Ps n) (hns3: ∀ n d s0,an≠ .LB n d s0) (hns4: ∀ m n,an≠ .draws m n) {k:Ex→St→Option Rt} (h:Ji c ops.toList an S k=some r) (hK: ∀ o∈ops.toList, ∀ v a,K a→K (a.put o.dst v))
  (hQ: ∀ S',k .aM S'=some r→ ∀ a w,At N C G S' a w→K a→Q .normal a w) (hat:At N C G S a w) (ha:K a):nS P ops Q a w:=by
 obtain ⟨l⟩:=ops
 have h:Ji c l an S k=some r:=h
 have hK: ∀ o∈l, ∀ v a,K a→K (a.put o.dst v):=hK
 unfold Ji at h
 ·skip
  cases an<;>first | (cases h;done) | (exact absurd rfl (hns _)) | (exact absurd rfl (hns2 _)) | (exact absurd rfl (hns3 _ _ _)) | (exact absurd rfl (hns4 _ _)) | skip
  rename_i n _
  replace h:(bif LQ c n l then opsE c l l ⟨strips (l.take n) S.env,S.az⟩ (k .aM) else none)=some r:=h
  cases hB:LQ c n l with
  | false=>rw [hB] at h;cases h
  | true=>
  rw [hB] at h
  simp only [cond_true] at h
  unfold LQ at hB
  simp only [Bool.and_eq_true,List.all_eq_true,Bool.or_eq_true (CO _ _)] at hB
  have hF0:kZ l n:=by
   rcases hB.1 with h1 | h1
   ·exact Fw (AZ h1)
   ·obtain ⟨_,_,h2⟩:=yU h1
    exact h2.form
  obtain ⟨W,e,eh,oh,q1,q2,q3⟩:=hat
  obtain ⟨hs',g1,g2,g3⟩:=lq (l.take n) _ _ q1.env
  have hb2:=(Sub.app g2 (Sub.refl oh)).hb q3
  have hsp:l=l.take n++l.drop n:=(List.take_append_drop n l).symm
  obtain ⟨hl,p1,p2,S',eh3,oh3,p3,p4,p5⟩:=yT (tail:=l.drop n) (hs0:=hs'++oh) hc hn (l.take n) ⟨strips (l.take n) S.env,S.az⟩ e hs' oh (by rw [← hsp];exact h) hB.2 ⟨g1,q1.l9,q1.nd⟩ (.perm (List.Perm.refl _)) g3 (zB hF0 fun o ho=>AJ (hB.2 o ho))
  have hKh: ∀ p∈hl, ∀ a,K a→K (a.put p.1.dst p.2):=fun p hp a ha=>by
   have:p.1∈l.take n:=by rw [← p1];exact List.mem_map.2 ⟨p,hp,rfl⟩
   exact hK p.1 (List.mem_of_mem_take this) _ _ ha
  have htail: ∀ a' w',Fr a' N (fV hl hl.length e)→Hb C w' (hs'++oh) (Inv G W.φ)→K a'→wpList P l.toArray Q (l.drop n) a' w':=fun a' w' hf' hb' ha'=>
   sj hc hn (l.drop n) S' p3 (fun o ho=>hK o (List.mem_of_mem_drop ho)) hQ a' w' ⟨W,_,_,_,p4,hf',p5.1.1.hb hb'⟩ ha'
  rcases hB.1 with hB1 | hB1
  ·exact Sv (I:=Inv G W.φ) hm hB1 p1 (fun i o v hi=>⟨(p2 i o v hi).1.1,(p2 i o v hi).2⟩) hKh htail a w q2 hb2 ha
  ·obtain ⟨ob,d,hFB⟩:=yU hB1
   refine PH (I:=Inv G W.φ) hm hFB p1 (fun i o v hi=>⟨(p2 i o v hi).1.1,(p2 i o v hi).2⟩) (fun i o v hi hqb=>(p2 i o v hi).1.2 hqb) hKh htail (fun a' w' hf' hb' ha'=>?_) a w q2 hb2 ha
   have hlt:=hFB.lt
   have hdrop:l.drop n=ob::l.drop (n+1):=by
    rw [List.drop_eq_getElem_cons hlt]
    congr 1
    have:=hFB.op
    simpa [List.getElem?_eq_getElem hlt] using this
   rw [hdrop] at p3
   unfold opsE at p3
   rw [hFB.gd] at p3
   obtain ⟨t,m,ps,hop⟩:=hFB.bs
   obtain ⟨dst,op,ty,pos,af,gd⟩:=ob
   simp only at hop
   subst hop
   have hdst:dst=some d:=hFB.dst
   subst hdst
   have hv:kY c ⟨some d, .buildSlice t m ps,ty,pos,af,gd⟩=false:=by
    unfold kY
    simp only
    cases mem d c.tk<;>cases mem d c.ef<;>rfl
   simp only [F8,hv,cond_false] at p3
   obtain ⟨S2,e1,e2⟩:=vG (N:=N) (C:=C) hc hn p3
   obtain ⟨v,w2,r1,r2,r3⟩:=e2 a' w' ⟨W,_,_,_,p4,hf',p5.1.1.hb hb'⟩
   refine ⟨v,w2,r1,r2,sj hc hn (l.drop (n+1)) S2 e1 (fun o ho=>hK o (List.mem_of_mem_drop ho)) hQ _ _ r3 ?_⟩
   exact hK _ (List.mem_of_getElem? (by simpa using hFB.op)) v a' ha'
end
end Go.Lf
/-
  Regions that draw their order: a store, and reads that it does not wait for.
-/
namespace Go.Lf
open Go Go.iM
section
variable {P:Program} {N:Nat} {C:Cx} {G:World→Prop} {c:Ctx} {S:St} {Rt:Type} {k:St→Option Rt} {r:Rt} {a:Act} {w:World}
variable {W:d_} {e:Env} {eh oh:List Chunk} {K:Act→Prop} {Q:Exit→Act→World→Prop}
structure EU (l:List Oper) (n:Nat) (ob:Oper) (m:Nat):Prop where
 form:kZ l n
 lt:n<l.length
 tail:n+1=l.length∨(Region.sinkB .any l.toArray (n+1)=true∧Region.chainB .any l.toArray (n+1)=true)
 chain:Region.chainB .any l.toArray n=true
 op:l.toArray[n]? =some ob
 gd:ob.guard=none
 dst:ob.dst=none
 quiet: ∀ j oj,j<n→l.toArray[j]? =some oj→j<m∨uH l.toArray n n j=true
 see: ∀ j oj s,j<n→l.toArray[j]? =some oj→oj.dst=some s→s∈ob.looksAt l.toArray→Region.waitsFor .any l.toArray n j=true
theorem G6 {m:Nat} {l:List Oper} {n:Nat} (h:GR m l n=true): ∃ ob,EU l n ob m:=by
 unfold GR at h
 simp only [Bool.and_eq_true,decide_eq_true_eq,Bool.or_eq_true] at h
 obtain ⟨⟨⟨⟨⟨⟨h1,h2⟩,h3⟩,h4⟩,h5⟩,h6⟩,h7⟩:=h
 split at h7
 case h_2=>cases h7
 case h_1 ob hob=>
 simp only [Bool.and_eq_true] at h7
 obtain ⟨h7,h8,h9⟩:=h7
 have h2:n+1≤l.length:=by simpa using h2
 have key: ∀ (j:Nat) (oj:Oper),j<n→l.toArray[j]? =some oj→(Nat.blt j m=true∨uH l.toArray n n j=true)∧(match oj.dst with | some s=> !(ob.looksAt l.toArray).contains s || Region.waitsFor .any l.toArray n j | none=>true)=true:=fun j oj hj hoj=>by
  have h10:=List.all_eq_true.1 h9 j (List.mem_range.2 hj)
  rw [hoj] at h10
  simp only [Bool.and_eq_true,Bool.or_eq_true] at h10
  exact h10
 refine ⟨ob,⟨h1,by omega,fun i o ho x hx hbx=>?_,fun i j oi oj s hi hj hoi hoj hij hds=>?_, .inr h5⟩,by omega,h6.imp (fun h=>by simpa using h) id,h5,hob,by simpa using h7,by simpa using h8,fun j oj hj hoj=>(key j oj hj hoj).1.imp (fun h=>Nat.le_of_ble_eq_true h) id,fun j oj s hj hoj hs hm=>?_⟩
 ·have hlt:=(Array.getElem?_eq_some_iff.1 ho).1
  have h6:=List.all_eq_true.1 h3 i (List.mem_range.2 hlt)
  rw [ho] at h6
  have h7:=Array.all_eq_true_iff_forall_mem.1 h6 x hx
  simpa [hbx] using h7
 ·have h6:=List.all_eq_true.1 h4 i (List.mem_range.2 hi)
  have hoi':l.toArray[i]? =some oi:=by simpa using hoi
  have hoj':l.toArray[j]? =some oj:=by simpa using hoj
  rw [hoi'] at h6
  have h7:=List.all_eq_true.1 h6 j (List.mem_range.2 hj)
  rw [hoj'] at h7
  simp only [Bool.or_eq_true,decide_eq_true_eq,hds] at h7
  rcases h7 with h7 | h7
  ·exact absurd h7 hij
  ·simp only [Bool.and_eq_true,Bool.or_eq_true,Bool.not_eq_true',decide_eq_true_eq] at h7
   refine ⟨h7.1,fun hm=>?_⟩
   rcases h7.2 with (h8 | h8) | h8
   ·rw [List.contains_iff_mem.2 hm] at h8
    cases h8
   ·exact .inl h8
   ·exact .inr h8
 ·have:=(key j oj hj hoj).2
  rw [hs] at this
  simp only [Bool.or_eq_true,Bool.not_eq_true'] at this
  rcases this with this | this
  ·rw [List.contains_iff_mem.2 hm] at this
   cases this
  ·exact this
def VC (P:Program) (N:Nat) (ops:Array Oper) (e:Env) (GW:World→Prop) (o:Oper) (v:Value):Prop:=
 ∀ a,Fr a N e→(Region.wanted o (yielded ops a.tmps)=false∧v=undef)∨(Region.wanted o (yielded ops a.tmps)=true∧ ∀ w,GW w→(execOp a.eval o).run P w= .ok (.value v) w)
theorem Qe {l:List Oper} {n:Nat} {hs:List Chunk} {I:World→Prop} (hm:P.follows .mixedOrders=true) {ob:Oper} {m:Nat} {GW:World→Prop} (hF:EU l n ob m) {hl:List (Oper×Value)} (hmap:hl.map (·.1)=l.take n)
  (hhead: ∀ i o v,hl[i]? =some (o,v)→Head P N C l.toArray (fV hl i e) hs I o v∧ ∃ d,o.dst=some d∧d<N) (hq: ∀ i o v,hl[i]? =some (o,v)→i<m→VC P N l.toArray (fV hl i e) GW o v) (hKh: ∀ p∈hl, ∀ a,K a→K (a.put p.1.dst p.2))
  (htail: ∀ a w,Fr a N (fV hl hl.length e)→Hb C w hs I→K a→wpList P l.toArray Q (l.drop n) a w)
  (hnew: ∀ a w,Fr a N (fV hl hl.length e)→Hb C w hs I→K a→ ∃ x w',(execOp a.eval ob).run P w= .ok x w'∧(x= .skip∨ ∃ v,x= .value v)∧GW w'∧wpList P l.toArray Q (l.drop (n+1)) a w'):
  ∀ a w,Fr a N e→Hb C w hs I→K a→nS P l.toArray Q a w:=by
 have hF0:=hF.form
 refine DU hm hF0 hmap hhead hKh htail fun a hf ha listed fuel w' inv hb hex hfu i hi hin=>?_
 have hlt:=hF.lt
 have hsize:l.toArray.size=l.length:=by simp
 obtain ⟨hun,o,ho,hdeps⟩:=mem_ready.1 hi
 have hil:=(Array.getElem?_eq_some_iff.1 ho).1
 have hni:i=n:=by
  rcases Nat.lt_or_ge n i with h2 | h2
  ·exfalso
   have h4:=List.all_eq_true.1 hF.chain i (List.mem_range.2 hil)
   simp only [Bool.or_eq_true,decide_eq_true_eq] at h4
   rcases h4 with h4 | h4
   ·omega
   ·obtain ⟨o',ho',x,hx,hbx,hon⟩:=Region.waitsFor_spec h4
    have:o'=o:=Option.some.inj (ho'.symm.trans ho)
    subst this
    have h5:=hdeps x hx hbx
    have h6:=getD_both (inv.tail (i - 1) (by omega) (by omega))
    rw [hon,h6] at h5
    cases h5
  ·omega
 subst hni
 have:o=ob:=Option.some.inj (ho.symm.trans hF.op)
 subst this
 have hlen:hl.length=i:=by
  have:=congrArg List.length hmap
  simp at this
  omega
 have hget: ∀ (j:Nat) (o:Oper) (v:Value),hl[j]? =some (o,v)→l[j]? =some o:=fun j o v hj=>by
  have h1:(hl.map (·.1))[j]? =some o:=by simp [hj]
  rw [hmap,List.getElem?_take] at h1
  split at h1
  ·exact h1
  ·cases h1
 have hinl: ∀ (j:Nat) (o:Oper) (v:Value),hl[j]? =some (o,v)→j<i:=fun j o v hj=>by
  have:=(List.getElem?_eq_some_iff.1 hj).1
  omega
 have hdist:sP hl:=fun j k o v o' v' s hj hk hjk hds=>(hF0.xe k j o' o s (hinl _ _ _ hk) (hinl _ _ _ hj) (hget _ _ _ hk) (hget _ _ _ hj) (Ne.symm hjk) hds).1
 have hfr:=BZ hdist hf fun j o v hj=>(hhead j o v hj).2
 have hfull:=hfr hl.length (Nat.le_refl _)
 have hall: ∀ L:Nat→Bool,(∀ j,j<i→L j=true)→puts hl L 0 a=puts hl (fun j=>decide (j<hl.length)) 0 a:=fun L hL=>eG hl _ _ 0 a fun j hj=>by
  simp only [Nat.zero_add]
  rw [hL j (by omega)]
  simp [hj]
 obtain ⟨xB,wB,hrun,hxB,hGB,hrest⟩:=hnew _ w' hfull hb (LM hKh _ _ _ ha)
 have hsee: ∀ s∈o.looksAt l.toArray,(puts hl (fun j=>listed.getD j false) 0 a).tmps[s]? =(puts hl (fun j=>decide (j<hl.length)) 0 a).tmps[s]? :=fun s hs=>by
  by_cases hssz:s<a.tmps.size
  ·by_cases hex3: ∃ (j:Nat) (oj:Oper) (vj:Value),hl[j]? =some (oj,vj)∧oj.dst=some s
   ·obtain ⟨j,oj,vj,hj,hds⟩:=hex3
    have hjn:=hinl _ _ _ hj
    have h1:=hF.see j oj s hjn (by simpa using hget _ _ _ hj) hds hs
    obtain ⟨o2,ho2,x,hx,hbx,hon⟩:=Region.waitsFor_spec h1
    have:o2=o:=Option.some.inj (ho2.symm.trans ho)
    subst this
    have h2:=hdeps x hx hbx
    rw [hon] at h2
    have hun2: ∀ (k:Nat) (o2:Oper) (v2:Value),hl[k]? =some (o2,v2)→k≠j→o2.dst≠some s:=fun k o2 v2 hk hkj hd2=>hdist k j o2 v2 oj vj s hk hj hkj hd2 hds
    rw [lF hl _ s 0 a j oj vj hj (by simpa using h2) hds hssz hun2,lF hl _ s 0 a j oj vj hj (by simp;omega) hds hssz hun2]
   ·have h3: ∀ (L:Nat→Bool),(puts hl L 0 a).tmps[s]? =a.tmps[s]? :=fun L=>mJ hl L s 0 a fun j oj vj hj _ hds=>hex3 ⟨j,oj,vj,hj,hds⟩
    rw [h3,h3]
  ·have hz: ∀ L:Nat→Bool,(puts hl L 0 a).tmps[s]? =none:=fun L=>by
    have h5:=(iP hl L 0 a).1
    rw [Array.getElem?_eq_none_iff,h5]
    exact Nat.le_of_not_lt hssz
   rw [hz,hz]
 have hB1:=(mM hF0.DY ho hsee).1
 have main: ∀ (fuel:Nat) (listed:Array Bool),HeadInv .any l.toArray (i+1) listed→listed.getD i false=true→(l.length - (i+1))+(List.range i).countP (fun j=> !listed.getD j true)≤fuel→
   wpAny P .any l.toArray Q fuel listed (puts hl (fun j=>listed.getD j false) 0 a) wB:=by
  have done: ∀ (fuel:Nat) (listed:Array Bool),HeadInv .any l.toArray (i+1) listed→listed.getD i false=true→l.length - (i+1)≤fuel→(∀ j,j<i→listed.getD j false=true)→
    wpAny P .any l.toArray Q fuel listed (puts hl (fun j=>listed.getD j false) 0 a) wB:=fun fuel listed inv hli hfu hal=>by
   refine tO hF0.edge (.inr hF.chain) fuel (i+1) listed _ wB (by omega) (by rw [hsize];omega) inv.size (fun j hj=>?_) (by rw [hsize];omega) ?_
   ·by_cases hjn:j<i+1
    ·rcases Nat.lt_succ_iff_lt_or_eq.1 hjn with h1 | rfl
     ·rw [hal j h1];simp [hjn]
     ·rw [hli];simp
    ·have h1:=inv.tail j (by omega) hj
     rw [getD_both h1]
     simp [hjn]
   ·rw [hall _ hal]
    exact hrest
  intro fuel
  induction fuel with
  | zero=>
   intro listed inv hli hfu
   refine done 0 listed inv hli (by omega) fun j hj=>?_
   have h1:(List.range i).countP (fun j=> !listed.getD j true)=0:=by omega
   have h2:=List.countP_eq_zero.1 h1 j (List.mem_range.2 hj)
   rw [← l8 (by rw [inv.size,hsize];omega)]
   simpa using h2
  | succ fuel ih=>
   intro listed inv hli hfu
   by_cases hal: ∀ j,j<i→listed.getD j false=true
   ·exact done _ listed inv hli (by omega) hal
   ·have hex: ∃ j,j<i∧listed.getD j false=false:=by
     apply Classical.byContradiction
     intro hno
     refine hal fun j hj=>?_
     cases hg:listed.getD j false with
     | true=>rfl
     | false=>exact absurd ⟨j,hj,hg⟩ hno
    have hready: ∀ k∈Region.ready .any l.toArray listed,k<i:=fun k hk=>by
     obtain ⟨hkun,ok,hok,_⟩:=mem_ready.1 hk
     have hkl:=(Array.getElem?_eq_some_iff.1 hok).1
     rcases Nat.lt_or_ge k i with h1 | h1
     ·exact h1
     ·exfalso
      rcases Nat.lt_or_ge i k with h2 | h2
      ·rcases hF.tail with h3 | h3
       ·omega
       ·obtain ⟨j,hj,hg⟩:=hex
        exact tail_waits h3.1 h3.2 (by rw [hsize];omega) inv _ j rfl (by omega) (getD_in (by rw [inv.size,hsize];omega) hg) k (by omega) hk
      ·have:k=i:=by omega
       subst this
       rw [getD_both hkun] at hli
       cases hli
    have hne:Region.ready .any l.toArray listed≠[]:=by
     obtain ⟨j,hj,hg⟩:=hex
     obtain ⟨k,hk⟩:=yB hF0 inv.size j j hj hg (Nat.le_refl _)
     intro h0
     rw [h0] at hk
     cases hk
    refine ⟨fun h0=>absurd h0 hne,fun k hk=>?_⟩
    have hki:=hready k hk
    obtain ⟨hkun,ok,hok,hkdeps⟩:=mem_ready.1 hk
    obtain ⟨⟨o',vk⟩,hov⟩: ∃ p,hl[k]? =some p:=⟨_,List.getElem?_eq_getElem (by omega)⟩
    have hoo:o'=ok:=by
     have h1:=hget k o' vk hov
     have h2:l[k]? =some ok:=by simpa using hok
     exact Option.some.inj (h1.symm.trans h2)
    subst hoo
    have hLk:listed.getD k false=false:=getD_both hkun
    have hqk:k<m:=by
     rcases hF.quiet k o' hki hok with h1 | h1
     ·exact h1
     ·have:=zW inv.closed i i k h1 hli
      rw [hLk] at this
      cases this
    have hslot: ∀ s∈o'.looksAt l.toArray,(puts hl (fun j=>listed.getD j false) 0 a).tmps[s]? =(puts hl (fun j=>decide (j<k)) 0 a).tmps[s]? :=fun s hs=>Aq hF0 hdist hget hinl inv.closed (a:=a) hov hok hLk hkdeps s hs
    obtain ⟨hexec,hwant⟩:=mM hF0.DY hok hslot
    have hstep:wpAny P .any l.toArray Q fuel (listed.setIfInBounds k true) ((puts hl (fun j=>listed.getD j false) 0 a).put o'.dst vk) wB:=by
     rw [wZ hdist hov hLk a]
     have hksz:k<listed.size:=by rw [inv.size,hsize];omega
     rw [eG hl _ (fun j=>(listed.setIfInBounds k true).getD j false) 0 a fun j _=>by
      simp only [Nat.zero_add]
      by_cases hjk:j=k
      ·subst hjk
       simp [hksz]
      ·rw [getD_set_ne false (Ne.symm hjk)]
       have:Nat.beq j k=false:=by
        cases hbq:Nat.beq j k with
        | false=>rfl
        | true=>exact absurd (Nat.eq_of_beq_eq_true hbq) hjk
       rw [this]
       simp]
     refine ih _ (inv.set hk (by omega)) (by rw [getD_set_ne false (by omega)];exact hli) ?_
     have:=sQ (l:=List.range i) (p:=fun j=> !listed.getD j true) (p':=fun j=> !(listed.setIfInBounds k true).getD j true) (fun x _ hx=>by
      by_cases hxk:k=x
      ·subst hxk;simp [hksz] at hx
      ·rwa [getD_set_ne true hxk] at hx) (List.mem_range.2 hki) (by simp [hkun]) (by simp [hksz])
     omega
    have hh:=hq k o' vk hov hqk _ (hfr k (by omega))
    unfold wpOp
    rw [hok]
    simp only
    rcases hh with ⟨hw0,hv0⟩ | ⟨hw1,hrun1⟩
    ·rw [hwant,hw0]
     simp only [Bool.false_eq_true,if_false]
     rw [← hv0]
     exact hstep
    ·rw [hwant,hw1]
     simp only [if_true]
     refine .inl ?_
     unfold Oper.wp
     rw [hexec,hrun1 wB hGB]
     exact hstep
 unfold wpOp
 rw [ho]
 simp only
 have hwt:Region.wanted o (yielded l.toArray (puts hl (fun j=>listed.getD j false) 0 a).tmps)=true:=by simp [Region.wanted,hF.gd]
 rw [hwt]
 simp only [if_true]
 refine .inl ?_
 unfold Oper.wp
 rw [hB1,hrun]
 have VZ: ∀ (y:Value) (a:Act),a.put none y=a:=fun _ _=>rfl
 suffices hsuf:wpAny P .any l.toArray Q fuel (listed.setIfInBounds i true) (puts hl (fun j=>listed.getD j false) 0 a) wB by
  rcases hxB with rfl | ⟨v,rfl⟩
  ·show wpAny P .any l.toArray Q fuel (listed.setIfInBounds i true) ((puts hl (fun j=>listed.getD j false) 0 a).put o.dst undef) wB
   rw [hF.dst]
   exact hsuf
  ·show wpAny P .any l.toArray Q fuel (listed.setIfInBounds i true) ((puts hl (fun j=>listed.getD j false) 0 a).put o.dst v) wB
   rw [hF.dst]
   exact hsuf
 have hisz:i<listed.size:=by rw [inv.size,hsize];omega
 have e1:(puts hl (fun j=>listed.getD j false) 0 a)=puts hl (fun j=>(listed.setIfInBounds i true).getD j false) 0 a:=eG hl _ _ 0 a fun j hj=>by
  simp only [Nat.zero_add]
  rw [getD_set_ne false (by omega)]
 rw [e1]
 refine main fuel _ ⟨by simpa using inv.size,fun j oj hoj hlj x hx hbx=>?_,fun t ht htl=>?_⟩ (by simp [hisz]) ?_
 ·by_cases hji:i=j
  ·subst hji
   have:oj=o:=Option.some.inj (hoj.symm.trans ho)
   subst this
   have h1:=hdeps x hx hbx
   by_cases hxi:i=x.on
   ·rw [← hxi];simp [hisz]
   ·rw [getD_set_ne false hxi];exact h1
  ·rw [getD_set_ne false hji] at hlj
   have h1:=inv.closed j oj hoj hlj x hx hbx
   by_cases hxi:i=x.on
   ·rw [← hxi];simp [hisz]
   ·rw [getD_set_ne false hxi];exact h1
 ·rw [getD_set_ne true (by omega)]
  exact inv.tail t (by omega) htl
 ·have:(List.range i).countP (fun j=> !(listed.setIfInBounds i true).getD j true)=(List.range i).countP (fun j=> !listed.getD j true):=List.countP_congr fun x hx=>by
   have:=List.mem_range.1 hx
   rw [getD_set_ne true (by omega)]
  rw [this]
  omega
theorem Mf (hc:aO P G c) {o:Oper} {S':St} (h:JR c o S=some S') (hs:aZ S W e eh oh):o.dst=none∧
  ∀ a w,Fr a N e→Hb C w (eh++oh) (Inv G W.φ)→ ∃ W' oh' w',W'.φ=W.φ∧(execOp a.eval o).run P w= .ok .skip w'∧aZ S' W' e eh oh'∧Hb C w' (eh++oh') (Inv G W.φ):=by
 obtain ⟨dst,op,ty,pos,af,gd⟩:=o
 unfold JR at h
 split at h
 case h_2=>cases h
 case h_1 tid x z hd ho=>
 simp only at hd ho
 subst hd ho
 refine ⟨rfl,fun a w hf hb=>?_⟩
 split at h
 case h_2=>cases h
 case h_1 j p o i hx hi=>
 split at h
 case h_2=>cases h
 case h_1 y sat hy hat=>
 obtain ⟨vs,v1,v2⟩:=jo hs.env hy (hc.ty _ _ hi).DN
 have htop:i.ty.top=true:=vo hs.env hy (hc.ty _ _ hi).DN
 obtain ⟨_,ob2,tb,hob,htb⟩:=uA hat
 have hr:=v2
 have ht:=(hc.ty _ _ hi).sz
 obtain ⟨ob,pre,mid,post,h1,h2,h3,rr,s,g1,g2,g3,g4,g5,g6,g7,g8⟩:=pW h hs
 have he:ob2=ob:=Option.some.inj (hob.symm.trans g1)
 subst he
 rw [htb] at g7 g8
 obtain ⟨oh',w1,w2⟩:=g8 W.φ vs [] W.φ.le_refl hr
 have hml:mid.length=vs.length:=by rw [g6.len,hr.len, ← Ty.aF s.1, ← g3,Ty.aF]
 rw [g4] at g7
 have hb1:Hb C w (blk (W.aA j) tb (pre++mid++post)::(eh++(h1++[]++h3)++rr)) (Inv G W.φ):=by
  refine ((Sub.app (Sub.refl eh) ((Sub.perm g7).trans (Sub.app (Sub.app (Sub.refl _) (Sub.app (Sub.app (Sub.refl h1) (Sub.nil h2)) (Sub.refl h3))) (Sub.refl rr)))).trans (Sub.perm ?_)).hb hb
  simp only [eO,List.append_assoc,List.nil_append,List.cons_append]
  exact List.perm_middle (l₁:=eh)
 have hh:=hb1.hp.hold _ List.mem_cons_self
 have hrun:=run_store (P:=P) (dst:=none) (ty:=ty) (pos:=pos) (af:=af) (gd:=gd) (t:=tid) (by rw [hr.len];exact ht) (hf.ev (bI hs.env hx)) (hf.ev v1) (jX htop v2) hr.one hh g5 hml
 have hb2:=hb1.turn (uk hh) (qa (l':=pre++vs++post) hh) (fun g hg=> .inl ⟨hg,Nat.zero_le _⟩)
 refine ⟨⟨W.φ,W.aA,upd W.hd j (pre++vs++post)⟩,oh',_,rfl,hrun,w1,(Sub.perm ?_).hb hb2⟩
 have:=(w2.append_left eh).symm
 refine List.Perm.trans ?_ this
 simp only [eO,List.append_assoc,List.cons_append,List.nil_append]
 exact (List.perm_middle (l₁:=eh)).symm
theorem zC {l1 l2:List (Oper×Value)} (i:Nat) (e:Env):fV (l1++l2) i e=if i≤l1.length then fV l1 i e else fV l2 (i - l1.length) (fV l1 l1.length e):=by
 unfold fV
 split
 ·rename_i h
  rw [List.take_append_of_le_length h]
 ·rename_i h
  rw [List.take_append,List.take_of_length_le (by omega:l1.length≤i),List.foldl_append,List.take_of_length_le (Nat.le_refl _)]
theorem Nl (hm:P.follows .mixedOrders=true) (hc:aO P G c) (hn:c.n=N) {l:List Oper} {m n:Nat} {k:Ex→St→Option Rt} (h:KF c m n l S (k .aM)=some r) (hK: ∀ o∈l, ∀ v a,K a→K (a.put o.dst v))
  (hQ: ∀ S',k .aM S'=some r→ ∀ a w,At N C G S' a w→K a→Q .normal a w) (hat:At N C G S a w) (ha:K a):nS P l.toArray Q a w:=by
 unfold KF at h
 cases hB:JH c m n l with
 | false=>rw [hB] at h;cases h
 | true=>
 rw [hB] at h
 simp only [cond_true] at h
 unfold JH at hB
 simp only [Bool.and_eq_true,List.all_eq_true] at hB
 obtain ⟨hB1,hmn,hval,hqu⟩:=hB
 have hmn:=Nat.le_of_ble_eq_true hmn
 obtain ⟨ob,hF⟩:=G6 hB1
 have hF0:=hF.form
 have hlt:=hF.lt
 obtain ⟨W,e,eh,oh,q1,q2,q3⟩:=hat
 obtain ⟨hs',g1,g2,g3⟩:=lq (l.take n) _ _ q1.env
 have hb2:=(Sub.app g2 (Sub.refl oh)).hb q3
 have hnd:=zB hF0 fun o ho=>AJ (by rw [hval o ho];rfl)
 have hsp:l.take n=l.take m++(l.take n).drop m:=by
  conv=>lhs;rw [← List.take_append_drop m (l.take n)]
  rw [List.take_take,Nat.min_eq_left hmn]
 have hm1: ∀ o∈l.take m,o∈l.take n:=fun o ho=>by rw [hsp];exact List.mem_append_left _ ho
 have hm2: ∀ o∈(l.take n).drop m,o∈l.take n:=fun o ho=>List.mem_of_mem_drop ho
 have hnd1:=hnd
 rw [hsp,List.map_append] at hnd1
 have hnd1:=List.nodup_append.1 hnd1
 obtain ⟨hl1,a1,a2,S1,eh1,oh1,a3,a4,a5,a6,a7⟩:=yT (tail:=[]) (hs0:=hs') hc hn (l.take m) ⟨strips (l.take n) S.env,[]⟩ e hs' [] (by simpa using h) (fun o ho=>by rw [hval o (hm1 o ho)];rfl) ⟨g1, .nil,List.nodup_nil⟩ (by rw [List.append_nil];exact .perm (List.Perm.refl _)) (fun o ho=>g3 o (hm1 o ho)) hnd1.1
 obtain ⟨x1,x2⟩:=a7 fun o ho=>hval o (hm1 o ho)
 have x1:=x1.symm
 have x2:=x2.symm
 subst x1 x2
 unfold opsE at a3
 simp only at a3
 split at a3
 case h_2=>cases a3
 case h_1 hob1=>
 obtain ⟨hl2,b1,b2,S2,eh2,oh2,b3,b4,b5,b6,b7⟩:=yT (tail:=[]) (hs0:=hs'++oh) hc hn ((l.take n).drop m) ⟨S1.env,S.az⟩ (fV hl1 hl1.length e) hs' oh (by simpa using a3) (fun o ho=>by rw [hval o (hm2 o ho)];rfl) ⟨a4.env,q1.l9,q1.nd⟩ (.perm (List.Perm.refl _))
  (fun o ho d hd=>a6 d (fun o' ho' hd'=>hnd1.2.2 (some d) (List.mem_map.2 ⟨o',ho',hd'⟩) (some d) (List.mem_map.2 ⟨o,ho,hd⟩) rfl) (g3 o (hm2 o ho) d hd)) hnd1.2.1
 obtain ⟨y1,y2⟩:=b7 fun o ho=>hval o (hm2 o ho)
 have y1:=y1.symm
 have y2:=y2.symm
 subst y1 y2
 unfold opsE at b3
 simp only at b3
 split at b3
 case h_2=>cases b3
 case h_1 S3 hst=>
 unfold NS at hst
 have hob:l[n]? =some ob:=by simpa using hF.op
 rw [hob] at hst
 simp only at hst
 obtain ⟨hdst,hst⟩:=Mf (N:=N) (C:=C) hc hst b4
 have hlen1:hl1.length=m:=by
  have:=congrArg List.length a1
  simp at this
  omega
 have hmap:(hl1++hl2).map (·.1)=l.take n:=by rw [List.map_append,a1,b1, ← hsp]
 have hlast:fV (hl1++hl2) (hl1++hl2).length e=fV hl2 hl2.length (fV hl1 hl1.length e):=by
  rw [zC,List.length_append]
  split
  ·rename_i h0
   have h0:hl2.length=0:=by omega
   rw [h0]
   show fV hl1 (hl1.length+0) e=fV hl1 hl1.length e
   rfl
  ·rw [Nat.add_sub_cancel_left]
 have hget1: ∀ (i:Nat) (o:Oper) (v:Value),i<m→(hl1++hl2)[i]? =some (o,v)→hl1[i]? =some (o,v):=fun i o v hi hov=>by
  rw [List.getElem?_append_left (by omega)] at hov
  exact hov
 have hquiet: ∀ (i:Nat) (o:Oper) (v:Value),hl1[i]? =some (o,v)→Bu P N C l.toArray (fV hl1 i e) hs' (Inv G W.φ) o v:=fun i o v hi=>(a2 i o v hi).1.2 (hqu o (by rw [← a1];exact List.mem_map.2 ⟨(o,v),List.mem_of_getElem? hi,rfl⟩))
 have htail: ∀ a' w',Fr a' N (fV (hl1++hl2) (hl1++hl2).length e)→Hb C w' (hs'++oh) (Inv G W.φ)→K a'→ ∃ w2,(execOp a'.eval ob).run P w'= .ok .skip w2∧Hb C w2 hs' (Inv G W.φ)∧wpList P l.toArray Q (l.drop (n+1)) a' w2:=fun a' w' hf' hb' ha'=>by
  rw [hlast] at hf'
  obtain ⟨W',oh',w2,r1,r2,r3,r4⟩:=hst a' w' hf' hb'
  refine ⟨w2,r2,Sub.left.hb r4,?_⟩
  exact sj hc hn (l.drop (n+1)) S3 b3 (fun o ho=>hK o (List.mem_of_mem_drop ho)) hQ a' w2 ⟨W',_,_,_,r3,hf',by rw [r1];exact r4⟩ ha'
 refine Qe (I:=Inv G W.φ) (hs:=hs'++oh) (GW:=fun w=>Hb C w hs' (Inv G W.φ)) hm hF hmap (fun i o v hi=>?_) (fun i o v hi him=>?_) (fun p hp a ha=>?_) (fun a' w' hf' hb' ha'=>?_) (fun a' w' hf' hb' ha'=>?_) a w q2 hb2 ha
 ·rcases Nat.lt_or_ge i m with him | him
  ·have hi1:=hget1 i o v him hi
   have:=hquiet i o v hi1
   rw [zC,if_pos (by omega)]
   refine ⟨fun a2 hf2=>?_,(a2 i o v hi1).2⟩
   rcases this a2 hf2 with h0 | h0
   ·exact .inl h0
   ·refine .inr ⟨h0.1,fun w2 hb3=>?_⟩
    rw [h0.2 w2 (Sub.left.hb hb3)]
    exact ⟨rfl,hb3⟩
  ·rw [List.getElem?_append_right (by omega)] at hi
   have h2:=b2 _ o v hi
   refine ⟨?_,h2.2⟩
   rw [zC]
   split
   ·rename_i h0
    have h0:i=hl1.length:=by omega
    subst h0
    rw [Nat.sub_self] at h2
    exact h2.1.1
   ·exact h2.1.1
 ·have hi1:=hget1 i o v him hi
  have:=hquiet i o v hi1
  rw [zC,if_pos (by omega)]
  exact this
 ·have:p.1∈l.take n:=by rw [← hmap];exact List.mem_map.2 ⟨p,hp,rfl⟩
  exact hK p.1 (List.mem_of_mem_take this) _ _ ha
 ·obtain ⟨w2,r1,_,r3⟩:=htail a' w' hf' hb' ha'
  rw [List.drop_eq_getElem_cons hlt]
  have hget:l[n]=ob:=by
   rw [List.getElem?_eq_getElem hlt] at hob
   exact Option.some.inj hob
  rw [hget]
  refine wpList_plain hF.gd fun KK hKK=>?_
  unfold Oper.wp
  rw [r1]
  have:a'.put ob.dst undef=a':=by rw [hF.dst];rfl
  show KK (a'.put ob.dst undef) w2
  rw [this]
  exact hKK _ _ r3
 ·obtain ⟨w2,r1,r2,r3⟩:=htail a' w' hf' hb' ha'
  exact ⟨.skip,w2,r1, .inl rfl,r2,r3⟩
end
end Go.Lf
/-
  What an operation comes to does not depend on what goes on behind it: `opE c o S k = (opE c o S some).bind k`, for operations that turn more than their slot.
-/
namespace Go.Lf
open Go Go.iM
theorem wS {α β:Type} (b:Bool) (x y:Option α) (k:α→Option β):(cond b x y).bind k=cond b (x.bind k) (y.bind k):=by cases b<;>rfl
section
variable {R:Type} (c:Ctx) (o:Oper) (S:St) (k:St→Option R)
theorem bW (x:D):out c o S x k=(out c o S x some).bind k:=by
 unfold out
 split
 ·rw [wS];rfl
 ·rfl
theorem dW (d:Nat) (ob:Ob) (x:D):xw c d ob x S k=(xw c d ob x S some).bind k:=by
 unfold xw
 split
 ·rw [wS];rfl
 ·rfl
theorem dN (d el:Nat) (t:Ty) (l:List t.den):BB c d el t l S k=(BB c d el t l S some).bind k:=dW ..
theorem P7 {t:Ty} (y:t.den):Ke c o S t y k=(Ke c o S t y some).bind k:=by
 unfold Ke
 repeat' (first | exact bW .. | exact dN .. | split | rfl)
theorem Dg {t:Ty} (y:t.den):Ht c o S t y k=(Ht c o S t y some).bind k:=by
 unfold Ht
 repeat' (first | exact bW .. | exact dN .. | exact dW .. | rw [wS, ← bW, ← bW] | split | rfl)
theorem Ol (l:List Dn):BR c o S l k=(BR c o S l some).bind k:=by
 unfold BR
 split
 ·exact Dg ..
 ·exact bW ..
theorem JK (el:Nat) (t:Ty) (l:List t.den):z_ c o S el t l k=(z_ c o S el t l some).bind k:=by
 unfold z_
 repeat' (first | exact bW .. | exact dN .. | split | rfl)
theorem bB {α:Type} (f:α→Option R) (b:Bool) (x x2:Option R) (y y2:Option α) (h:x=y.bind f) (h2:x2=y2.bind f):cond b x x2=(cond b y y2).bind f:=by rw [wS,h,h2]
theorem bu {α β:Type} (f:β→Option R) (x:Option α) (g:α→Option R) (g2:α→Option β) (h: ∀ r,g r=(g2 r).bind f):x.bind g=(x.bind g2).bind f:=by
 rw [Option.bind_assoc];congr 1;funext r;exact h r
end
section
variable {R:Type} (c:Ctx) (o:Oper) (S:St) (k:St→Option R)
theorem MZ (x:Operand):zl c o S x k=(zl c o S x some).bind k:=by
 unfold zl
 repeat' (first | with_reducible rfl | exact bW .. | with_reducible exact P7 .. | exact dN .. | exact dW .. | with_reducible refine bB _ _ _ _ _ _ ?_ ?_ | with_reducible refine bu _ _ _ _ (fun _=>?_) | split | rfl)
theorem Mt (t:Nat) (d:D):loadT c o S t k d=(loadT c o S t some d).bind k:=by
 unfold loadT
 repeat' (first | with_reducible rfl | exact bW .. | exact dN .. | exact dW .. | with_reducible refine bB _ _ _ _ _ _ ?_ ?_ | with_reducible refine bu _ _ _ _ (fun _=>?_) | split | rfl)
theorem GZ (x:Operand) (i:Nat):sW c o S x i k=(sW c o S x i some).bind k:=by
 unfold sW
 repeat' (first | with_reducible rfl | exact bW .. | with_reducible exact Dg .. | exact dN .. | exact dW .. | with_reducible refine bB _ _ _ _ _ _ ?_ ?_ | with_reducible refine bu _ _ _ _ (fun _=>?_) | split | rfl)
theorem N9 (d t:Nat) (x:Operand):Mk c d t S x k=(Mk c d t S x some).bind k:=by
 unfold Mk
 repeat' (first | with_reducible rfl | exact bW .. | exact dN .. | exact dW .. | with_reducible refine bB _ _ _ _ _ _ ?_ ?_ | with_reducible refine bu _ _ _ _ (fun _=>?_) | split | rfl)
theorem Je (x y:Operand) (t t2:Nat):wW c o S x y t t2 k=(wW c o S x y t t2 some).bind k:=by
 unfold wW
 repeat' (first | with_reducible rfl | exact bW .. | exact dN .. | exact dW .. | with_reducible refine bB _ _ _ _ _ _ ?_ ?_ | with_reducible refine bu _ _ _ _ (fun _=>?_) | split | rfl)
theorem Mi (x y:Operand) (t:Nat):EZ c o S x y t k=(EZ c o S x y t some).bind k:=by
 unfold EZ
 repeat' (first | with_reducible rfl | exact bW .. | with_reducible refine bB _ _ _ _ _ _ ?_ ?_ | split | rfl)
theorem JS (t:Nat) (x:Operand) (lo hi:Option Operand):sliceT c t o S x lo hi k=(sliceT c t o S x lo hi some).bind k:=by
 unfold sliceT
 repeat' (first | with_reducible rfl | exact bW .. | exact dN .. | exact dW .. | with_reducible refine bB _ _ _ _ _ _ ?_ ?_ | with_reducible refine bu _ _ _ _ (fun _=>?_) | split | rfl)
theorem Ou (j:Nat) (p:List Dir) (off:Nat) (y:Dn):FV S j p off y k=(FV S j p off y some).bind k:=by
 unfold FV
 repeat' (first | with_reducible rfl | exact bW .. | exact dN .. | exact dW .. | with_reducible refine bB _ _ _ _ _ _ ?_ ?_ | with_reducible refine bu _ _ _ _ (fun _=>?_) | split | rfl)
end
section
variable {R:Type} (c:Ctx) (S:St) (kk:D→Option R)
theorem MN (a x y:D):Fg a x y kk=(Fg a x y some).bind kk:=by
 unfold Fg
 repeat' (first | with_reducible rfl | exact bW .. | exact dN .. | exact dW .. | with_reducible refine bB _ _ _ _ _ _ ?_ ?_ | with_reducible refine bu _ _ _ _ (fun _=>?_) | split | rfl)
theorem MH (op:BinOp) (k:IntKind) (a b:Int):EJ op k a b kk=(EJ op k a b some).bind kk:=by
 unfold EJ
 repeat' (first | with_reducible rfl | exact bW .. | exact dN .. | exact dW .. | with_reducible refine bB _ _ _ _ _ _ ?_ ?_ | with_reducible refine bu _ _ _ _ (fun _=>?_) | split | rfl)
theorem R_ (op:UnOp) (x:D):UH op x kk=(UH op x some).bind kk:=by
 unfold UH
 repeat' (first | with_reducible rfl | exact bW .. | exact dN .. | exact dW .. | with_reducible refine bB _ _ _ _ _ _ ?_ ?_ | with_reducible refine bu _ _ _ _ (fun _=>?_) | split | rfl)
theorem Rl (t:Ty) (y:t.den):XA t y kk=(XA t y some).bind kk:=by
 unfold XA
 repeat' (first | with_reducible rfl | split | rfl)
theorem Nu (t:Nat) (x:D):FD c S t kk x=(FD c S t some x).bind kk:=by
 unfold FD
 repeat' (first | with_reducible rfl | exact Rl .. | exact bW .. | exact dN .. | exact dW .. | with_reducible refine bB _ _ _ _ _ _ ?_ ?_ | with_reducible refine bu _ _ _ _ (fun _=>?_) | split | rfl)
theorem Kl (t:Nat) (x:Operand) (lo hi:Option Operand):Av c t S x lo hi kk=(Av c t S x lo hi some).bind kk:=by
 unfold Av
 repeat' (first | with_reducible rfl | exact bW .. | exact dN .. | exact dW .. | with_reducible refine bB _ _ _ _ _ _ ?_ ?_ | with_reducible refine bu _ _ _ _ (fun _=>?_) | split | rfl)
theorem KC (t:Nat) (x m:Operand) (lo hi:Option Operand):slice3 c t S x lo hi m kk=(slice3 c t S x lo hi m some).bind kk:=by
 unfold slice3
 repeat' (first | with_reducible rfl | with_reducible refine bB _ _ _ _ _ _ ?_ ?_ | with_reducible refine bu _ _ _ _ (fun _=>?_) | split | rfl)
theorem QA (t:Nat) (x:D):Mv c t S kk x=(Mv c t S some x).bind kk:=by
 unfold Mv
 repeat' (first | with_reducible rfl | exact bW .. | exact dN .. | exact dW .. | with_reducible refine bB _ _ _ _ _ _ ?_ ?_ | with_reducible refine bu _ _ _ _ (fun _=>?_) | split | rfl)
theorem Ns (x:D):D5 x kk=(D5 x some).bind kk:=by
 unfold D5
 repeat' (first | with_reducible rfl | exact bW .. | exact dN .. | exact dW .. | with_reducible refine bB _ _ _ _ _ _ ?_ ?_ | with_reducible refine bu _ _ _ _ (fun _=>?_) | split | rfl)
theorem QD (tb:Bool) (op:BinOp) (x y:D):MQ tb op x y kk=(MQ tb op x y some).bind kk:=by
 unfold MQ
 repeat' (first | with_reducible rfl | exact MH .. | with_reducible refine bB _ _ _ _ _ _ ?_ ?_ | with_reducible refine bu _ _ _ _ (fun _=>?_) | split | rfl)
theorem SC (i:Ip) (l:List Operand):UG S i l kk=(UG S i l some).bind kk:=by
 unfold UG
 repeat' (first | with_reducible rfl | with_reducible refine bB _ _ _ _ _ _ ?_ ?_ | with_reducible refine bu _ _ _ _ (fun _=>?_) | split | rfl)
set_option maxHeartbeats 2000000 in
theorem Ea (o:Op):fF c o S kk=(fF c o S some).bind kk:=by
 unfold fF
 repeat' (first | with_reducible rfl | exact Ns .. | exact QD .. | exact MN .. | exact R_ .. | exact Nu .. | exact Kl .. | exact KC .. | exact QA .. | exact SC .. | with_reducible refine bB _ _ _ _ _ _ ?_ ?_ | with_reducible refine bu _ _ _ _ (fun _=>?_) | split | rfl)
end
section
variable {R:Type} (c:Ctx) (o:Oper) (S:St) (k:St→Option R)
theorem J_ (t:Nat) (x:Operand) (d:D):storeT c t S x k d=(storeT c t S x some d).bind k:=by
 unfold storeT
 repeat' (first | with_reducible rfl | exact Ou .. | with_reducible refine bB _ _ _ _ _ _ ?_ ?_ | with_reducible refine bu _ _ _ _ (fun _=>?_) | split | rfl)
set_option maxHeartbeats 2000000 in
theorem Kn (t:Nat) (x:Operand):C8 c o S t x k=(C8 c o S t x some).bind k:=by
 unfold C8
 repeat' (first | with_reducible rfl | exact bW .. | with_reducible refine bB _ _ _ _ _ _ ?_ ?_ | split | rfl)
theorem MM (x:Operand):II c o S x k=(II c o S x some).bind k:=by
 unfold II
 repeat' (first | with_reducible rfl | exact bW .. | with_reducible refine bB _ _ _ _ _ _ ?_ ?_ | split | rfl)
theorem M5 (e:Entry) (l:List Operand):EL c o S e l k=(EL c o S e l some).bind k:=by
 unfold EL
 repeat' (first | with_reducible rfl | exact Dg .. | with_reducible refine bB _ _ _ _ _ _ ?_ ?_ | with_reducible refine bu _ _ _ _ (fun _=>?_) | split | rfl)
theorem PR:oF c o S k=(oF c o S some).bind k:=by
 unfold oF
 repeat' (first | with_reducible rfl | exact bW .. | exact dN .. | exact dW .. | exact Ol .. | exact M5 .. | exact JK .. | exact MZ .. | exact Mt .. | exact GZ .. | exact N9 .. | exact Je .. | exact Mi .. | exact JS .. | exact J_ .. | exact Kn .. | exact MM .. | with_reducible refine bB _ _ _ _ _ _ ?_ ?_ | with_reducible refine bu _ _ _ _ (fun _=>?_) | split | rfl)
theorem LH:F8 c o S k=(F8 c o S some).bind k:=by
 unfold F8
 cases kY c o with
 | false=>exact PR ..
 | true=>
  simp only [cond_true]
  rw [Ea c S (fun d=>out c o S d k),Ea c S (fun d=>out c o S d some),Option.bind_assoc]
  congr 1
  funext d
  exact bW ..
end
end Go.Lf
/-
  A soup's reckoning, in general: what is quiet reads objects; results keep their rights; new objects; guards.
-/
namespace Go.Lf
open Go Go.iM
theorem jJ {s:Nat}: ∀ {r:List Nat},s∈r→mem s r=true
 | x::r,h=>by
  unfold mem
  rcases List.mem_cons.1 h with rfl | h
  ·simp
  ·rw [jJ h];simp
theorem yQ (S:St): ∀ (l:List Nat) (k:Nat),k∈(uV S l).map (·.1)→k∈l
 | [],k,h=>by cases h
 | s::r,k,h=>by
  unfold uV at h
  cases hm:mem s r with
  | true=>rw [hm] at h;exact List.mem_cons_of_mem _ (yQ S r k h)
  | false=>
   rw [hm] at h
   simp only [cond_false] at h
   cases hl:look S.env s with
   | none=>rw [hl] at h;exact List.mem_cons_of_mem _ (yQ S r k h)
   | some d=>
    rw [hl] at h
    rcases List.mem_cons.1 h with h | h
    ·rw [h];exact List.mem_cons_self
    ·exact List.mem_cons_of_mem _ (yQ S r k h)
theorem yX (S:St): ∀ l:List Nat,((uV S l).map (·.1)).Nodup
 | []=>List.nodup_nil
 | s::r=>by
  unfold uV
  cases hm:mem s r with
  | true=>exact yX S r
  | false=>
   simp only [cond_false]
   cases look S.env s with
   | none=>exact yX S r
   | some d=>
    refine List.nodup_cons.2 ⟨fun h=>?_,yX S r⟩
    have:=jJ (yQ S r s h)
    rw [hm] at this
    cases this
def bF:List (Nat×D)→List Oper→List (D×Option Ob)→List (Nat×D)
 | E,o::l,(x,_)::xs=>match o.dst with
  | some d=>bF (aQ E d x) l xs
  | none=>bF E l xs
 | E,_,_=>E
def oK:List Oper→List (D×Option Ob)→List (Nat×Ob)
 | o::l,(_,ob)::xs=>match o.dst,ob with
  | some d,some b=>(d,b)::oK l xs
  | _,_=>oK l xs
 | _,_=>[]
structure TM (c:Ctx) (S:St) (o:Oper) (el:Nat) (t:Ty) (l:(Ty.mr el t).den):Prop where
 ex: ∃ (cl:Call) (f:Nat) (en:Entry) (x:Operand) (z:ai (en.ps.map fq.ty)) (q:ai (en.rs++outs en.ps)),o.op= .call cl∧cl.callee= .value x∧S.get x= .fn f∧EI c o.dst f=some en∧IG c o en=true∧xR S en.ps cl.args.toList=some z∧en.f z=some q∧aI (en.rs++outs en.ps) q=[⟨.mr el t,l⟩]∧t.flat=true
theorem Ud {R:Type} {c:Ctx} {S:St} {o:Oper} {k:D→Option R} {r:R} (h:YK c S o k=some r): ∃ el t l,TM c S o el t l∧k (.v (.mr el t) l)=some r:=by
 unfold YK at h
 split at h
 case h_2=>cases h
 case h_1 cl hop=>
 split at h
 case h_2=>cases h
 case h_1 x hcl=>
 split at h
 case h_2=>cases h
 case h_1 f hx=>
 split at h
 case h_2=>cases h
 case h_1 en hl=>
 cases hrd:IG c o en with
 | false=>rw [hrd] at h;cases h
 | true=>
 rw [hrd,cond_true] at h
 split at h
 case h_2=>cases h
 case h_1 z hz=>
 obtain ⟨q,hq,h⟩:=Option.bind_eq_some_iff.1 h
 split at h
 case h_2=>cases h
 case h_1 el t l hu=>
 cases hfl:t.flat with
 | false=>rw [hfl] at h;cases h
 | true=>
 rw [hfl,cond_true] at h
 exact ⟨el,t,l,⟨cl,f,en,x,z,q,hop,hcl,hx,hl,hrd,hz,hq,hu,hfl⟩,h⟩
inductive uJ (c:Ctx) (ks:List Nat) (S:St) (o:Oper) (d:Nat):D→Option Ob→Prop
 | ld {j:Nat} {p:List Dir} {off:Nat}:Wz c S o=some (j,p,off)→mem j ks=false→Ii c d=none→uJ c ks S o d (.bO j p off) none
 | q {x:D}:fF c o.op S some=some x→GL ks x=true→Ii c d=none→uJ c ks S o d x none
 | e {x:D} {S':St}:qB c o=false→F8 c o ⟨S.env,[]⟩ some=some S'→look S'.env d=some x→Ug x=true→Ii c d=none→uJ c ks S o d x none
 | n {x:D} {S':St} {ob:Ob}:qB c o=false→F8 c o ⟨S.env,[]⟩ some=some S'→look S'.env d=some x→Qi d x=true→mem d ks=true→look S'.az d=some ob→Ii c d=none→uJ c ks S o d x (some ob)
 | rd {el:Nat} {t:Ty} {l:(Ty.mr el t).den}:qB c o=false→TM c S o el t l→Ii c d=none→uJ c ks S o d (.v (.mr el t) l) none
 | hv {x:D} {S':St} {E':List (Nat×D)} {s el:Nat} {t:Ty}:Ii c d=some (s,el,t)→GA s el t S.env=some E'→F8 c o ⟨E',[]⟩ some=some S'→look S'.env d=some x→Ug x=true→uJ c ks S o d x none
inductive QS (c:Ctx) (all:List Oper) (ks:List Nat) (O:List (Nat×Ob)) (E:List (Nat×D)) (o:Oper) (d:Nat):D→Option Ob→Prop
 | run {x:D} {ob:Option Ob}:o.guard=none→uJ c ks ⟨uV ⟨E,[]⟩ (o.looksAt all.toArray),O⟩ o d x ob→QS c all ks O E o d x ob
 | on {x:D} {ob:Option Ob} {j s:Nat} {want:Bool} {b:Ty.den .bool}:o.guard=some (j,want)→A_ all j=some s→mem s (o.looksAt all.toArray)=true→look E s=some (.v .bool b)→b=want→uJ c ks ⟨uV ⟨E,[]⟩ (o.looksAt all.toArray),O⟩ o d x ob→QS c all ks O E o d x ob
 | off {j s:Nat} {want:Bool} {b:Ty.den .bool}:o.guard=some (j,want)→A_ all j=some s→mem s (o.looksAt all.toArray)=true→look E s=some (.v .bool b)→b≠want→QS c all ks O E o d .EF none
 | un {j s:Nat} {want:Bool}:o.guard=some (j,want)→A_ all j=some s→mem s (o.looksAt all.toArray)=true→look E s=some .EF→QS c all ks O E o d .EF none
theorem LC {R:Type} {c:Ctx} {ks:List Nat} {S:St} {o:Oper} {d:Nat} {k:D→Option Ob→Option R} {r:R} (h:Ua c ks S o d k=some r): ∃ x ob,uJ c ks S o d x ob∧k x ob=some r:=by
 unfold Ua at h
 split at h
 ·rename_i s el t hh
  split at h
  case h_2=>cases h
  case h_1 E' hE=>
  rw [LH] at h
  obtain ⟨S',h1,h2⟩:=Option.bind_eq_some_iff.1 h
  cases hx:look S'.env d with
  | none=>rw [hx] at h2;cases h2
  | some x=>
   rw [hx] at h2
   dsimp only at h2
   cases hf:Ug x with
   | true=>rw [hf] at h2;exact ⟨x,none, .hv hh hE h1 hx hf,h2⟩
   | false=>rw [hf] at h2;cases h2
 rename_i hh
 split at h
 ·rename_i j p off hl
  cases hm:mem j ks with
  | true=>rw [hm] at h;cases h
  | false=>rw [hm] at h;exact ⟨_,_, .ld hl hm hh,h⟩
 ·cases hq:qB c o with
  | true=>
   rw [hq,cond_true,Ea] at h
   obtain ⟨x,h1,h2⟩:=Option.bind_eq_some_iff.1 h
   cases ho:GL ks x with
   | false=>rw [ho] at h2;cases h2
   | true=>rw [ho] at h2;exact ⟨x,none, .q h1 ho hh,h2⟩
  | false=>
   rw [hq,cond_false] at h
   cases hm:WQ c d with
   | true=>
    rw [hm,cond_true] at h
    obtain ⟨el,t,l,h1,h2⟩:=Ud h
    exact ⟨_,none, .rd hq h1 hh,h2⟩
   | false=>
   rw [hm,cond_false,LH] at h
   obtain ⟨S',h1,h2⟩:=Option.bind_eq_some_iff.1 h
   cases hx:look S'.env d with
   | none=>rw [hx] at h2;cases h2
   | some x=>
    rw [hx] at h2
    dsimp only at h2
    cases hf:Ug x with
    | true=>rw [hf] at h2;exact ⟨x,none, .e hq h1 hx hf hh,h2⟩
    | false=>
     rw [hf,cond_false] at h2
     cases hn:Qi d x && mem d ks with
     | false=>rw [hn] at h2;cases h2
     | true=>
      rw [hn,cond_true] at h2
      rw [Bool.and_eq_true] at hn
      cases hob:look S'.az d with
      | none=>rw [hob] at h2;cases h2
      | some ob=>rw [hob] at h2;exact ⟨x,some ob, .n hq h1 hx hn.1 hn.2 hob hh,h2⟩
theorem wM {R:Type} {c:Ctx} {all:List Oper} {ks:List Nat} {O:List (Nat×Ob)} {r:R}: ∀ (l:List Oper) (E:List (Nat×D)) (k:List (Nat×D)→List (Nat×Ob)→Option R),uF c all ks O l E k=some r→
  ∃ xs:List (D×Option Ob),xs.length=l.length∧k (bF E l xs) (oK l xs)=some r∧ ∀ (i:Nat) (o:Oper) (x:D) (ob:Option Ob),l[i]? =some o→xs[i]? =some (x,ob)→ ∃ d,o.dst=some d∧Nat.blt d c.n=true∧QS c all ks O (bF E (l.take i) (xs.take i)) o d x ob
 | [],E,k,h=>⟨[],rfl,h,fun i o x ob h1 _=>by simp at h1⟩
 | o::l,E,k,h=>by
  unfold uF at h
  cases hd:o.dst with
  | none=>rw [hd] at h;cases h
  | some d=>
   rw [hd] at h
   dsimp only at h
   cases hb:Nat.blt d c.n with
   | false=>rw [hb] at h;cases h
   | true=>
    rw [hb,cond_true] at h
    have ep: ∀ x ob l' xs',bF E (o::l') ((x,ob)::xs')=bF (aQ E d x) l' xs':=fun x ob l' xs'=>by
     show (match o.dst with | some d=>bF (aQ E d x) l' xs' | none=>bF E l' xs')=_
     rw [hd]
    have en: ∀ x ob l' xs',oK (o::l') ((x,ob)::xs')=match ob with | some b=>(d,b)::oK l' xs' | none=>oK l' xs':=fun x ob l' xs'=>by
     show (match o.dst,ob with | some d,some b=>(d,b)::oK l' xs' | _,_=>oK l' xs')=_
     rw [hd]
     cases ob<;>rfl
    have fin: ∀ (x:D) (ob:Option Ob),QS c all ks O E o d x ob→(uF c all ks O l (aQ E d x) fun E' nw=>k E' (match ob with | some b=>(d,b)::nw | none=>nw))=some r→
      ∃ xs:List (D×Option Ob),xs.length=(o::l).length∧k (bF E (o::l) xs) (oK (o::l) xs)=some r∧ ∀ (i:Nat) (o':Oper) (x:D) (ob:Option Ob),(o::l)[i]? =some o'→xs[i]? =some (x,ob)→ ∃ d,o'.dst=some d∧Nat.blt d c.n=true∧QS c all ks O (bF E ((o::l).take i) (xs.take i)) o' d x ob:=fun x ob hg h2=>by
     obtain ⟨xs,e1,e2,e3⟩:=wM l _ _ h2
     refine ⟨(x,ob)::xs,by simp [e1],by rw [ep,en];exact e2,fun i o' x' ob' h3 h4=>?_⟩
     cases i with
     | zero=>
      have e5:o=o':=by simpa using h3
      have e6:(x,ob)=(x',ob'):=by simpa using h4
      subst e5
      injection e6 with e6 e7
      subst e6
      subst e7
      exact ⟨d,hd,hb,hg⟩
     | succ i=>
      rw [List.take_succ_cons,List.take_succ_cons,ep]
      exact e3 i o' x' ob' (by simpa using h3) (by simpa using h4)
    cases hg:o.guard with
    | none=>
     rw [hg] at h
     obtain ⟨x,ob,h1,h2⟩:=LC h
     exact fin x ob (.run hg h1) h2
    | some jw=>
     obtain ⟨j,want⟩:=jw
     rw [hg] at h
     dsimp only at h
     cases hs:A_ all j with
     | none=>rw [hs] at h;cases h
     | some s=>
      rw [hs] at h
      dsimp only at h
      cases hm:mem s (o.looksAt all.toArray) with
      | false=>rw [hm] at h;cases h
      | true=>
       rw [hm,cond_true] at h
       split at h
       ·rename_i b hl
        cases hw:(bif want then b else !b) with
        | true=>
         rw [hw,cond_true] at h
         have hbe:b=want:=by cases want<;>simp_all
         rw [qx (by rw [← sV hbe];exact hl)] at h
         obtain ⟨x,ob,h1,h2⟩:=LC h
         exact fin x ob (.on hg hs hm hl (by cases want<;>simp_all) h1) h2
        | false=>
         rw [hw,cond_false] at h
         have hbe:b= !want:=by cases want<;>simp_all
         have e1:aQ E s (bR (!want))=E:=qx (by rw [← sV hbe];exact hl)
         rw [e1] at h
         exact fin .EF none (.off hg hs hm hl (by cases want<;>simp_all)) h
       ·rename_i hl
        exact fin .EF none (.un hg hs hm hl) h
       ·cases h
section
variable {P:Program} {N:Nat} {C:Cx} {G:World→Prop} {c:Ctx}
theorem Gt {W:d_} {S:St} {f:Nat→Value}: ∀ l:List Nat,(∀ s∈l, ∀ d,look S.env s=some d→DR W d.j5 (f s) [])→ay W (uV S l) ((uV S l).map fun p=>(p.1,f p.1)) []
 | [],_=> .nil
 | s::r,h=>by
  have ih:=Gt r fun s' hs'=>h s' (List.mem_cons_of_mem _ hs')
  unfold uV
  cases mem s r with
  | true=>exact ih
  | false=>
   simp only [cond_false]
   cases hl:look S.env s with
   | none=>exact ih
   | some d=>exact ay.cons (h:=[]) (hs:=[]) (h s List.mem_cons_self d hl) ih
def TH (l:List Oper) (n:Nat):Prop:= ∀ (i j:Nat) (oi oj:Oper) (s:Nat),i<n→j<n→l[i]? =some oi→l[j]? =some oj→i≠j→oj.dst=some s→oi.dst≠some s∧(s∈oi.looksAt l.toArray→(j<i∧Region.waitsFor .any l.toArray i j=true)∨(i<j∧Region.waitsFor .any l.toArray j i=true))
end
end Go.Lf
/-
  A soup runs: its operations in any order.
-/
namespace Go.Lf
open Go Go.iM
structure zQ (U:Nat→Prop) (W1 W2:d_):Prop where
 phi:W1.φ.le W2.φ
 keys: ∀ j, ¬ U j→W2.aA j=W1.aA j∧W2.hd j=W1.hd j
theorem zQ.refl {U:Nat→Prop} (W:d_):zQ U W W:=⟨bL.le_refl _,fun _ _=>⟨rfl,rfl⟩⟩
theorem zQ.trans {U:Nat→Prop} {a b d:d_} (h:zQ U a b) (h':zQ U b d):zQ U a d:=⟨bL.le_trans h.phi h'.phi,fun j hj=>⟨(h'.keys j hj).1.trans (h.keys j hj).1,(h'.keys j hj).2.trans (h.keys j hj).2⟩⟩
theorem zQ.imp {U V:Nat→Prop} {a b:d_} (h:zQ U a b) (hi: ∀ j,U j→V j):zQ V a b:=⟨h.phi,fun j hj=>h.keys j fun hu=>hj (hi j hu)⟩
theorem DR.Hd {U:Nat→Prop} {W1 W2:d_} (h:zQ U W1 W2) {x:D} {v:Value} {hh:List Chunk} (hx: ∀ j,xD x j→ ¬ U j) (hd:DR W1 x v hh):DR W2 x v hh:=by
 cases x with
 | v t y=>obtain ⟨cs,h1,h2,h3⟩:=hd;exact ⟨cs,h1,h2,h3.mono h.phi⟩
 | BQ l=>obtain ⟨vs,h1,h2⟩:=hd;exact ⟨vs,h1,h2.mono h.phi⟩
 | Ca t y=>obtain ⟨ad,cs,h1,h2,h3,h4⟩:=hd;exact ⟨ad,cs,h1,h2.mono h.phi,h3.mono h.phi,h4⟩
 | ref j p o=>obtain ⟨h1,h2⟩:=hd;exact ⟨by rw [(h.keys j (hx j rfl)).1];exact h1,h2⟩
 | bO j p o=>obtain ⟨h1,h2⟩:=hd;exact ⟨by rw [(h.keys j (hx j rfl)).2];exact h1,h2⟩
 | xZ j p o n sz q qo=>obtain ⟨A,m,cc,h1,h2,h3⟩:=hd;exact ⟨A,m,cc,by rw [(h.keys j (hx j rfl)).2];exact h1,h2,h3⟩
 | xV j p o n sz q qo=>obtain ⟨h1,h2⟩:=hd;exact ⟨by rw [(h.keys j (hx j rfl)).1];exact h1,h2⟩
 | NQ j p o k n=>obtain ⟨⟨h0,h1⟩,h2⟩:=hd;exact ⟨⟨h0,by rw [(h.keys j (hx j rfl)).1];exact h1⟩,h2⟩
 | MK te j p o=>obtain ⟨h1,h2⟩:=hd;exact ⟨by rw [(h.keys j (hx j rfl)).1];exact h1,h2⟩
 | sJ j p o=>obtain ⟨⟨c,h1,h2⟩,h3⟩:=hd;exact ⟨⟨c,h1,by rw [(h.keys j (hx j rfl)).1];exact h.phi _ _ h2⟩,h3⟩
 | zR g n l=>obtain ⟨⟨vs,h1,h2⟩,h3⟩:=hd;exact ⟨⟨vs,zk.all h1 h.phi fun p hp=>(h.keys _ (hx _ ⟨p,hp,rfl⟩)).1,h2⟩,h3⟩
 | _=>exact hd
theorem xn.Hd {U:Nat→Prop} {W1 W2:d_} (h:zQ U W1 W2) {j:Nat} (hj: ¬ U j) {ob:Ob} {hh:List Chunk} (hd:xn W1 j ob hh):xn W2 j ob hh:=by
 obtain ⟨h0,h1,h2⟩:=hd
 refine ⟨h0,?_,?_⟩
 ·rw [(h.keys j hj).2];exact h1.mono h.phi
 ·rw [h2,(h.keys j hj).1,(h.keys j hj).2]
def QQ (W:d_) (d:Nat):Option Ob→List Chunk→Prop
 | some b,h=>xn W d b h
 | none,h=>h=[]
theorem QQ.Hd {U:Nat→Prop} {W1 W2:d_} (h:zQ U W1 W2) {j:Nat} (hj: ¬ U j) {ob:Option Ob} {hh:List Chunk} (hd:QQ W1 j ob hh):QQ W2 j ob hh:=by
 cases ob with
 | none=>exact hd
 | some b=>exact xn.Hd h hj hd
theorem ay.Hd {U:Nat→Prop} {W1 W2:d_} (h:zQ U W1 W2) {l:List (Nat×D)} {e:Env} {hs:List Chunk} (he:ay W1 l e hs) (hl: ∀ p∈l, ∀ j,xD p.2 j→ ¬ U j):ay W2 l e hs:=by
 induction he with
 | nil=>exact .nil
 | cons h1 _ ih=>exact .cons (h1.Hd h (hl _ List.mem_cons_self)) (ih fun p hp=>hl p (List.mem_cons_of_mem _ hp))
theorem nO.Hd {U:Nat→Prop} {W1 W2:d_} (h:zQ U W1 W2) {l:List (Nat×Ob)} {hs:List Chunk} (ho:nO W1 l hs) (hl: ∀ p∈l, ¬ U p.1):nO W2 l hs:=by
 induction ho with
 | nil=>exact .nil
 | cons h1 _ ih=>exact .cons (h1.Hd h (hl _ List.mem_cons_self)) (ih fun p hp=>hl p (List.mem_cons_of_mem _ hp))
theorem K8 {ks:List Nat} {d:D} (h:GL ks d=true) {j:Nat} (hj:xD d j):mem j ks=false:=by
 have key: ∀ i,(!mem i ks)=true→j=i→mem j ks=false:=fun i hb e=>by rw [e];simpa using hb
 cases d<;>first | exact key _ h hj | exact hj.elim | skip
 obtain ⟨p,hp,rfl⟩:=hj
 have h1:=List.all_eq_true.1 h p hp
 simpa using h1
theorem BS {x:D} (h:Ug x=true) {j:Nat} (hj:xD x j):False:=by cases x<;>first | exact hj.elim | cases h
theorem JA {x:D} {d:Nat} (h:Qi d x=true) {j:Nat} (hj:xD x j):j=d:=by
 unfold Qi at h
 split at h
 ·rw [← Nat.eq_of_beq_eq_true h];exact hj
 ·rw [← Nat.eq_of_beq_eq_true h];exact hj
 ·cases h
theorem CY {W:d_} {ks:List Nat} {l:List (Nat×D)} {e:Env} {hs:List Chunk} (h:ay W l e hs):ay W (jU ks l) e hs∧ ∀ p∈jU ks l, ∀ j,xD p.2 j→mem j ks=false:=by
 induction h with
 | nil=>exact ⟨.nil,fun p hp=>by cases hp⟩
 | @cons k d v h hs l e h1 h2 ih=>
  have e1:jU ks ((k,d)::l)=(k,bif GL ks d then d else .und)::jU ks l:=rfl
  rw [e1]
  cases ho:GL ks d with
  | true=>
   refine ⟨.cons h1 ih.1,fun p hp=>?_⟩
   rcases List.mem_cons.1 hp with rfl | hp
   ·exact fun j hj=>K8 ho hj
   ·exact ih.2 p hp
  | false=>
   have:h=[]:=by
    cases d<;>first | (cases ho;done) | skip
    all_goals first | exact h1.2 | (obtain ⟨_,_,_,_,_,h5⟩:=h1;exact h5)
   subst this
   refine ⟨.cons (h:=[]) rfl ih.1,fun p hp=>?_⟩
   rcases List.mem_cons.1 hp with rfl | hp
   ·exact fun j hj=>hj.elim
   ·exact ih.2 p hp
theorem zX {W:d_} {ks:List Nat} {l:List (Nat×D)} {k:Nat} (h:cK W l k):cK W (jU ks l) k:=by
 intro d' hd' v hh hdr
 have key: ∀ l:List (Nat×D),look (jU ks l) k=some d'→d'= .und∨look l k=some d':=fun l=>by
  induction l with
  | nil=>intro h;cases h
  | cons p r ih=>
   obtain ⟨i,d⟩:=p
   intro h
   have e1:jU ks ((i,d)::r)=(i,bif GL ks d then d else .und)::jU ks r:=rfl
   rw [e1,au] at h
   rw [au]
   split at h
   ·rename_i hik
    injection h with h
    rw [if_pos hik]
    cases ho:GL ks d with
    | true=>rw [ho] at h;right;rw [← h];rfl
    | false=>rw [ho] at h;left;rw [← h];rfl
   ·rename_i hik
    rw [if_neg hik]
    exact ih h
 rcases key l hd' with rfl | h1
 ·exact hdr
 ·exact h d' h1 v hh hdr
section
variable {P:Program} {N:Nat} {C:Cx} {c:Ctx} {G J:World→Prop}
theorem aa.more {f:Nat} {e:Entry} (h:aa P G f e):aa P (fun w=>G w∧J w) f e:=by
 refine ⟨h.go,h.top,fun z r hz C φ vals gs hs ha hb=>?_⟩
 have hb1:Hb C C.w0 (hs++[]) (Inv (fun w=>G w∧J w) φ):=by rw [List.append_nil];exact hb
 have h1:=h.ok z r hz (C.sub C.w0 hs []) φ vals gs hs ha (hb1.pass.imp fun w hw=>⟨hw.1.1,hw.2⟩)
 refine h1.mono fun x w' hx=>?_
 obtain ⟨v,φ',h2,h3,rfl,hle,hb2,hr,ho⟩:=hx
 have hb3:=hb1.back hb2
 rw [List.append_nil] at hb3
 exact ⟨v,φ',h2,h3,rfl,hle,hb3.imp fun w hw=>⟨⟨hw.2.1,hw.1.1.2⟩,hw.2.2⟩,hr,ho⟩
theorem F3.more {f:Nat} {i:Ip} (h:F3 P G f i):F3 P (fun w=>G w∧J w) f i:=by
 refine ⟨h.go,h.flat,fun z m hm C φ g cs hr hb=>?_⟩
 have hb1:Hb C C.w0 ([blk g i.tid cs]++[]) (Inv (fun w=>G w∧J w) φ):=by rw [List.append_nil];exact hb
 refine (h.ok z m hm (C.sub C.w0 [blk g i.tid cs] []) φ g cs hr (hb1.pass.imp fun w hw=>⟨hw.1.1,hw.2⟩)).mono fun x w' hx=>?_
 obtain ⟨rfl,hb2⟩:=hx
 have hb3:=hb1.back hb2
 rw [List.append_nil] at hb3
 exact ⟨rfl,hb3.imp fun w hw=>⟨⟨hw.2.1,hw.1.1.2⟩,hw.2.2⟩⟩
theorem JM.more {v:Iv} (h:JM P G v):JM P (fun w=>G w∧J w) v:=by
 refine ⟨fun e r he C φ u hu hb=>?_⟩
 have hb1:Hb C C.w0 ([]++[]) (Inv (fun w=>G w∧J w) φ):=hb
 obtain ⟨f,rc,h1,h2⟩:=h.ok e r he (C.sub C.w0 [] []) φ u hu (hb1.pass.imp fun w hw=>⟨hw.1.1,hw.2⟩)
 refine ⟨f,rc,h1,h2.mono fun x w' hx=>?_⟩
 obtain ⟨vv,φ',k1,rfl,hle,hb2,hr⟩:=hx
 have hb3:=hb1.back hb2
 rw [List.append_nil] at hb3
 exact ⟨vv,φ',k1,rfl,hle,hb3.imp fun w hw=>⟨⟨hw.2.1,hw.1.1.2⟩,hw.2.2⟩,hr⟩
theorem aO.more (h:aO P G c):aO P (fun w=>G w∧J w) c:=⟨h.ty,fun f e hf=>(h.fn f e hf).more,fun f i hf=>(h.ip f i hf).more,h.eqs,h.im,fun d v hv=>(h.iv d v hv).more,fun d p hp=>(h.fx d p hp).more⟩
theorem At.less {S:St} {a:Act} {w:World} (h:At N C (fun w=>G w∧J w) S a w):At N C G S a w:=by
 obtain ⟨W,e,eh,oh,h1,h2,h3⟩:=h
 exact ⟨W,e,eh,oh,h1,h2,h3.imp fun w hw=>⟨hw.1.1,hw.2⟩⟩
end
section
variable {P:Program} {N:Nat} {C:Cx} {G:World→Prop} {c:Ctx}
def Fin (C:Cx) (G:World→Prop) (W:d_) (hs:List Chunk) (U:Nat→Prop) (d:Nat) (x:D) (ob:Option Ob) (v:Value) (w':World):Prop:=
 ∃ W' h1 h2,zQ U W W'∧DR W' x v h1∧QQ W' d ob h2∧Hb C w' ((h1++h2)++hs) (Inv G W'.φ)
def jS (P:Program) (C:Cx) (G:World→Prop) (W:d_) (hs:List Chunk) (U:Nat→Prop) (o:Oper) (d:Nat) (x:D) (ob:Option Ob) (a:Act) (w:World):Prop:=
 match (execOp a.eval o).run P w with
 | .ok (.value v) w'=>Fin C G W hs U d x ob v w'
 | .ok .skip w'=>Fin C G W hs U d x ob undef w'
 | .ok (.enter f args) w'=>Calls P f args w' fun y w''=> ∃ v,y= .returned v∧Fin C G W hs U d x ob v w''
 | _=>False
theorem UM (hc:aO P G c) {W:d_} {cut:List (Nat×D)} {O:List (Nat×Ob)} {ec:Env} (henv:ay W cut ec []) {oh hr:List Chunk} (hob:nO W O oh) (hnd:(O.map (·.1)).Nodup) {a:Act} (hfr:Fr a N ec) {w:World} (hb:Hb C w (oh++hr) (Inv G W.φ)) {o:Oper} {d:Nat} {x:D}
  (h:fF c o.op ⟨cut,O⟩ some=some x):jS P C G W (oh++hr) (fun _=>False) o d x none a w:=by
 obtain ⟨x',h1,hp⟩:=FQ (N:=N) (C:=C.sub w oh hr) (hc.more (J:=Agree W.φ)) h
 injection h1 with h1
 subst h1
 obtain ⟨v,h2,h3⟩:=hp W ec [] oh ⟨henv,hob,hnd⟩
 have h4:=h3 o.dst o.type o.pos o.after o.guard a w hfr (hb.pass.imp fun w hw=>⟨⟨hw.1,hw.2⟩,hw.2⟩)
 have fin: ∀ w',Hb (C.sub w oh hr) w' ([]++oh) (Inv (fun w=>G w∧Agree W.φ w) W.φ)→Fin C G W (oh++hr) (fun _=>False) d x' none v w':=fun w' h5=>
  ⟨W,[],[],zQ.refl W,h2,rfl,(hb.back h5).imp fun w2 hw=>⟨hw.1.1,hw.1.2⟩⟩
 unfold jS
 revert h4
 generalize (execOp a.eval o).run P w=q
 intro h4
 cases q with
 | halt y w2=>exact h4.elim
 | ok y w2=>
  cases y<;>first | exact h4.elim | skip
  ·obtain ⟨rfl,h5⟩:=h4
   exact fin _ h5
  ·exact Calls.mono h4 fun y w3 ⟨hy1,hy2⟩=>⟨v,hy1,fin _ hy2⟩
theorem Ub (hc:aO P G c) {W:d_} {cut:List (Nat×D)} {O:List (Nat×Ob)} {ec:Env} (henv:ay W cut ec []) {oh hr:List Chunk} (hob:nO W O oh) (hnd:(O.map (·.1)).Nodup) {a:Act} (hfr:Fr a N ec) {w:World} (hb:Hb C w (oh++hr) (Inv G W.φ)) {o:Oper} {d:Nat} {el:Nat} {t:Ty} {l:(Ty.mr el t).den}
  (h:TM c ⟨cut,O⟩ o el t l):jS P C G W (oh++hr) (fun _=>False) o d (.v (.mr el t) l) none a w:=by
 obtain ⟨cl,f,en,x,z,q,hop,hcl,hx,hl,hrd,hz,hq,hu,hfl⟩:=h.ex
 obtain ⟨vs,h0,h3⟩:=Fs (P:=P) (G:=G) (C:=C.sub w oh hr) (N:=N) (c:=c) (S:=⟨cut,O⟩) hop hcl hx (zM hc hl) hrd hz hq hu hfl ⟨henv,hob,hnd⟩ hfr hb.pass
 unfold jS
 rw [h0]
 exact h3.mono fun y w' ⟨v,k1,hy,hd,hb2⟩=>⟨v,hy,W,k1,[],zQ.refl W,hd,rfl,by
  have:=(hb.back (rs:=k1++([]++oh)) hb2).imp fun w2 hw=>hw.1
  simpa [List.append_assoc] using this⟩
theorem QL (hc:aO P G c) (hn:c.n=N) {W:d_} {cut:List (Nat×D)} {ec:Env} {hx0:List Chunk} (henv:ay W cut ec hx0) {a:Act} (hfr:Fr a N ec) {w:World} {hs:List Chunk} (hb:Hb C w (hx0++hs) (Inv G W.φ)) {o:Oper} {d:Nat} {x:D} {ob:Option Ob} {S':St} (hd:o.dst=some d) (hdN:d<N)
  (hx: ∀ j,xD x j→j=d) (hlk:look S'.env d=some x) (hob: ∀ b,ob=some b→look S'.az d=some b) (h:F8 c o ⟨cut,[]⟩ some=some S'):jS P C G W hs (fun j=>j=d) o d x ob a w:=by
 have hb0:Hb C w (hx0++hs) (Inv G W.φ):=hb
 have hp:=hb0.pass
 have hat:At N (C.sub w hx0 hs) (fun w=>G w∧Agree W.φ w) ⟨cut,[]⟩ a w:=⟨W,ec,hx0,[],⟨henv, .nil,List.nodup_nil⟩,hfr,by rw [List.append_nil];exact hp.imp fun w hw=>⟨⟨hw.1,hw.2⟩,hw.2⟩⟩
 obtain ⟨S2,k1,k2⟩:=Pj (N:=N) (C:=C.sub w hx0 hs) (G:=fun w=>G w∧Agree W.φ w) hc.more hn h
 injection k1 with k1
 rw [k1] at k2
 have h:=k2 a w hat
 have key: ∀ v w',At N (C.sub w hx0 hs) (fun w=>G w∧Agree W.φ w) S' (a.put o.dst v) w'→Fin C G W hs (fun j=>j=d) d x ob v w':=fun v w' ⟨W',e',eh',oh',hs',hf',hb'⟩=>by
  obtain ⟨v',h1,r1,g1,g2,g3⟩:=hs'.env.look hlk
  have hv:v'=v:=by
   have h3:=hf'.look g1
   have hsz:d<a.tmps.size:=by rw [hfr.size];exact hdN
   rw [hd] at h3
   simp only [Act.put] at h3
   rw [← h3]
   simp [hsz]
  subst hv
  have hO: ∃ h2,QQ W' d ob h2∧Sub oh' h2:=by
   cases ob with
   | none=>exact ⟨[],rfl,Sub.nil _⟩
   | some b=>
    obtain ⟨h2,r2,g4,g5⟩:=hs'.l9.look (hob b rfl)
    exact ⟨h2,g4,(Sub.perm g5).trans Sub.left⟩
  obtain ⟨h2,g4,g5⟩:=hO
  have hb2:Hb (C.sub w hx0 hs) w' (h1++h2) (Inv (fun w=>G w∧Agree W.φ w) W'.φ):=(Sub.app ((Sub.perm g3).trans Sub.left) g5).hb hb'
  have hb3:=hb0.back hb2
  have hget:=hb3.get
  have hle:W'.φ.le (bL.join W.φ W'.φ):=by
   refine ⟨fun y u hu=>?_,fun _ h=> .inr h⟩
   show (match W.φ y with | some v=>some v | none=>W'.φ y)=some u
   cases hw:W.φ y with
   | none=>exact hu
   | some u2=>
    have h3:=hget.1.2 y u2 hw
    have h4:=hget.2.2 y u hu
    rw [h3] at h4
    exact h4
  have hW:zQ (fun j=>j≠d) W' ⟨bL.join W.φ W'.φ,upd W.aA d (W'.aA d),upd W.hd d (W'.hd d)⟩:=⟨hle,fun j hj=>by
   have:j=d:=Classical.not_not.1 hj
   subst this
   exact ⟨aR _ _ _,aR _ _ _⟩⟩
  refine ⟨⟨bL.join W.φ W'.φ,upd W.aA d (W'.aA d),upd W.hd d (W'.hd d)⟩,h1,h2,⟨⟨fun y u hu=>by show (match W.φ y with | some v=>some v | none=>W'.φ y)=some u;rw [hu],fun _ h=> .inl h⟩,fun j hj=>⟨if_neg hj,if_neg hj⟩⟩,g2.Hd hW (fun j hj h3=>h3 (hx j hj)),?_,?_⟩
  ·exact g4.Hd hW (fun h3=>h3 rfl)
  ·refine hb3.imp fun w2 hw=>⟨hw.1.1,fun y u hu=>?_,fun g hg=>hg.elim (hw.1.2.blk g) (hw.2.2.blk g)⟩
   replace hu:(match W.φ y with | some v=>some v | none=>W'.φ y)=some u:=hu
   cases h5:W.φ y with
   | some u2=>
    rw [h5] at hu
    injection hu with hu
    subst hu
    exact hw.1.2 y u2 h5
   | none=>
    rw [h5] at hu
    exact hw.2.2 y u hu
 unfold jS
 unfold gD at h
 revert h
 generalize (execOp a.eval o).run P w=q
 intro h
 cases q with
 | halt y w2=>exact h.elim
 | ok y w2=>
  cases y<;>first | exact h.elim | skip
  ·exact key _ _ h
  ·exact key _ _ h
  ·exact Calls.mono h fun y w3 ⟨v,hy1,hy2⟩=>⟨v,hy1,key v w3 hy2⟩
theorem UB (hc:aO P G c) {W:d_} {cut:List (Nat×D)} {O:List (Nat×Ob)} {ec:Env} (henv:ay W cut ec []) {oh hr:List Chunk} (hob:nO W O oh) {a:Act} (hfr:Fr a N ec) {w:World} (hb:Hb C w (oh++hr) (Inv G W.φ)) {o:Oper} {d j off:Nat} {p:List Dir}
  (h:Wz c ⟨cut,O⟩ o=some (j,p,off)):jS P C G W (oh++hr) (fun _=>False) o d (.bO j p off) none a w:=by
 obtain ⟨dst,op,ty,pos,af,gd⟩:=o
 unfold Wz at h
 split at h
 case h_2=>cases h
 case h_1 d' t x hdst hop=>
 simp only at hop
 subst hop
 cases hm:mem d' c.tk with
 | false=>rw [hm] at h;cases h
 | true=>
 rw [hm,cond_true] at h
 split at h
 case h_2=>cases h
 case h_1 j' p' off' hx=>
 split at h
 case h_2=>cases h
 case h_1 el t' y i hat hi=>
 split at h
 case isFalse=>cases h
 case isTrue he=>
 injection h with h
 injection h with h1 h
 injection h with h2 h3
 subst h1 h2 h3
 obtain ⟨tb,pre,mid,post,hm2,q1,q2,q3,q4,_⟩:=gX (S:=⟨cut,O⟩) hob hat
 obtain ⟨A,cc,css,rfl,_⟩:=id q3
 have hev:=hfr.ev (bI (S:=⟨cut,O⟩) henv hx)
 have hrun:(execOp a.eval ⟨dst, .load t x,ty,pos,af,gd⟩).run P w= .ok (.value (sv (.rw el t') [.slice A (List.length y) cc])) w:=by
  have h5:=Dh (t:= .rw el t') (hc.ty _ _ hi) he q3 (.inl rfl) q2 (w:=w) (g:=W.aA j') (tb:=tb) (post:=post) (by rw [← q1];exact hb.has (List.mem_append_left _ q4))
  simp [execOp,hev,Instr.loadAt,Instr.sureAddr,h5]
 show (match (execOp a.eval ⟨dst, .load t x,ty,pos,af,gd⟩).run P w with
 | .ok (.value v) w'=>Fin C G W (oh++hr) (fun _=>False) d (.bO j' p' off') none v w'
 | .ok .skip w'=>Fin C G W (oh++hr) (fun _=>False) d (.bO j' p' off') none undef w'
 | .ok (.enter f args) w'=>Calls P f args w' fun y w''=> ∃ v,y= .returned v∧Fin C G W (oh++hr) (fun _=>False) d (.bO j' p' off') none v w''
 | _=>False)
 rw [hrun]
 refine ⟨W,[],[],zQ.refl W,⟨?_,rfl⟩,rfl,hb⟩
 rw [q1, ← q2]
 simp [sv]
end
end Go.Lf
/-
  A region that draws its order, in general: operations in any order, copies as soon as they may, then a chain.
-/
namespace Go.Lf
open Go Go.iM
theorem Gd {k:Nat}: ∀ {l r:List Nat},mem k (addN l r)=true→k∈l∨mem k r=true
 | [],r,h=> .inr h
 | x::l,r,h=>by
  unfold addN at h
  cases hx:mem x r with
  | true=>
   rw [hx,cond_true] at h
   exact (Gd h).imp (List.mem_cons_of_mem _) id
  | false=>
   rw [hx,cond_false] at h
   rcases Gd h with h1 | h1
   ·exact .inl (List.mem_cons_of_mem _ h1)
   ·unfold mem at h1
    cases hk:Nat.beq x k with
    | true=>exact .inl (by rw [Nat.eq_of_beq_eq_true hk];exact List.mem_cons_self)
    | false=>rw [hk] at h1;exact .inr h1
theorem Gc {o:Oper} {k:Nat} (h:k∈Qk o): ∃ x∈o.after,Region.binds .any x=true∧x.on=k:=by
 obtain ⟨x,hx,h1⟩:=List.mem_filterMap.1 h
 cases hb:Region.binds .any x with
 | false=>rw [hb] at h1;cases h1
 | true=>rw [hb] at h1;injection h1 with h1;exact ⟨x,by simpa using hx,hb,h1⟩
theorem mem_of {s:Nat}: ∀ {l:List Nat},mem s l=true→s∈l
 | [],h=>by cases h
 | k::r,h=>by
  unfold mem at h
  cases hk:Nat.beq k s with
  | true=>rw [Nat.eq_of_beq_eq_true hk];exact List.mem_cons_self
  | false=>rw [hk] at h;exact List.mem_cons_of_mem _ (mem_of h)
theorem sU {ops:Array Oper} {L:Nat→Prop} (closed: ∀ j oj,ops[j]? =some oj→L j→ ∀ e∈oj.after,Region.binds .any e=true→L e.on): ∀ (k:Nat) (r:List Nat),(∀ t,mem t r=true→L t)→ ∀ t,mem t (zT ops k r)=true→L t
 | 0,r,h,t,ht=>h t ht
 | k+1,r,h,t,ht=>by
  unfold zT at ht
  cases hk:mem k r with
  | false=>rw [hk] at ht;exact sU closed k r h t ht
  | true=>
   rw [hk,cond_true] at ht
   split at ht
   ·rename_i o ho
    refine sU closed k _ (fun t' ht'=>?_) t ht
    rcases Gd ht' with h1 | h1
    ·obtain ⟨x,hx,hb,hon⟩:=Gc h1
     rw [← hon];exact closed k o ho (h k hk) x hx hb
    ·exact h t' h1
   ·exact sU closed k r h t ht
structure Fj (l:List Oper) (n:Nat):Prop where
 le:n≤l.length
 edge: ∀ (i:Nat) (o:Oper),l.toArray[i]? =some o→ ∀ x∈o.after,Region.binds .any x=true→x.on<i
 tail:n=l.length∨(n<l.length∧Region.chainB .any l.toArray n=true∧Region.noSelect l.toArray=true∧ ∀ (i:Nat) (o:Oper),i<n→l.toArray[i]? =some o→mem i (ru l.toArray n)=false→Dc o=true∧o.guard=none∧LU l.toArray i=true)
theorem uE {l:List Oper} {n:Nat} (h:zn l n=true):Fj l n:=by
 unfold zn at h
 simp only [Bool.and_eq_true,decide_eq_true_eq,Bool.or_eq_true] at h
 obtain ⟨⟨h2,h3⟩,h5⟩:=h
 refine ⟨by simpa using h2,fun i o ho x hx hbx=>?_,?_⟩
 ·have hlt:=(Array.getElem?_eq_some_iff.1 ho).1
  have h6:=List.all_eq_true.1 h3 i (List.mem_range.2 hlt)
  rw [ho] at h6
  have h7:=Array.all_eq_true_iff_forall_mem.1 h6 x hx
  simpa [hbx] using h7
 ·rcases h5 with h5 | ⟨⟨⟨h5,h6⟩,h7⟩,h8⟩
  ·exact .inl (by simpa using h5)
  ·refine .inr ⟨by simpa using h5,h6,h7,fun i o hi ho hr=>?_⟩
   have h9:=List.all_eq_true.1 h8 i (List.mem_range.2 hi)
   rw [hr,ho] at h9
   simp only [Bool.false_or,Bool.and_eq_true] at h9
   exact ⟨h9.1.1,by simpa using h9.1.2,h9.2⟩
theorem M0 {ops:Array Oper} {listed:Array Bool} {i:Nat} (hR: ∀ t,mem t (ru ops i)=true→listed.getD t true=true) (h:LU ops i=true):Region.free .any ops listed i=true:=by
 unfold Region.free
 unfold LU at h
 split at h
 ·cases h
 ·rename_i oi hoi
  rw [hoi]
  refine List.all_eq_true.2 fun j hj=>?_
  have h1:=List.all_eq_true.1 h j hj
  rw [Bool.or_eq_true,Bool.or_eq_true] at h1 ⊢
  rcases h1 with (h1 | h1) | h1
  ·exact .inl (.inl h1)
  ·exact .inl (.inr (hR j h1))
  ·exact .inr h1
theorem I1 {l:List Oper} {n:Nat} (hle:n≤l.length) (hedge: ∀ (i:Nat) (o:Oper),l.toArray[i]? =some o→ ∀ x∈o.after,Region.binds .any x=true→x.on<i) {listed:Array Bool} (hsz:listed.size=l.toArray.size): ∀ d j,j≤d→j<n→listed.getD j false=false→ ∃ k,k∈Region.ready .any l.toArray listed:=fun d=>by
 induction d with
 | zero=>
  intro j hjd hj hg
  have hlt:j<l.toArray.size:=by simp;omega
  refine ⟨j,mem_ready.2 ⟨getD_in (by omega) hg,l.toArray[j],Array.getElem?_eq_getElem hlt,fun x hx hb=>?_⟩⟩
  have:=hedge j _ (Array.getElem?_eq_getElem hlt) x hx hb
  omega
 | succ d ih=>
  intro j hjd hj hg
  have hlt:j<l.toArray.size:=by simp;omega
  by_cases hall: ∀ x∈(l.toArray[j]).after,Region.binds .any x=true→listed.getD x.on false=true
  ·exact ⟨j,mem_ready.2 ⟨getD_in (by omega) hg,l.toArray[j],Array.getElem?_eq_getElem hlt,hall⟩⟩
  ·simp only [Classical.not_forall] at hall
   obtain ⟨x,hx,hb,hno⟩:=hall
   have hon:=hedge j _ (Array.getElem?_eq_getElem hlt) x hx hb
   exact ih x.on (by omega) (by omega) (by simpa using hno)
section
variable {P:Program} {Q:Exit→Act→World→Prop}
theorem CG {l:List Oper} {n:Nat} (_hm:P.follows .mixedOrders=true) (hF:Fj l n) (Inv:(Nat→Bool)→Act→World→Prop)
  (hcong: ∀ L L' a w,(∀ j,j<n→L j=L' j)→Inv L a w→Inv L' a w)
  (hstep: ∀ (Q:Exit→Act→World→Prop) (L:Nat→Bool) (i:Nat) (o:Oper),l.toArray[i]? =some o→i<n→L i=false→(∀ x∈o.after,Region.binds .any x=true→L x.on=true)→ ∀ a w,Inv L a w→wpOp P l.toArray Q i (Inv fun j=>L j || Nat.beq j i) a w)
  (hcopy:n<l.length→ ∀ (L:Nat→Bool) (i:Nat) (o:Oper),l.toArray[i]? =some o→i<n→L i=false→Dc o=true→o.guard=none→(∀ x∈o.after,Region.binds .any x=true→L x.on=true)→ ∀ a w,Inv L a w→ ∃ v,Yields P l.toArray o v a∧Inv (fun j=>L j || Nat.beq j i) (a.put o.dst v) w)
  (hend: ∀ (Q':Exit→Act→World→Prop),(∀ a w,Q .normal a w→Q' .normal a w)→ ∀ a w,Inv (fun _=>true) a w→wpList P l.toArray Q' (l.drop n) a w)
  (a:Act) (w:World) (h0:Inv (fun _=>false) a { w with drawn:=w.drawn+1 }):nS P l.toArray Q a w:=by
 let Q0:Exit→Act→World→Prop:=fun e a w=>match e with | .panic _=>False | e=>Q e a w
 refine ⟨Q0,fun e a w h=>?_,?_⟩
 ·cases e<;>first | exact h | exact h.elim
 have hsize:l.toArray.size=l.length:=by simp
 have hle:=hF.le
 have done: ∀ (fuel:Nat) (listed:Array Bool) (a:Act) (w':World),HeadInv .any l.toArray n listed→Inv (fun j=>listed.getD j false) a w'→(∀ j,j<n→listed.getD j false=true)→l.length - n≤fuel→wpAny P .any l.toArray Q0 fuel listed a w':=fun fuel listed a w' inv hI hall hfu=>by
  refine tO hF.edge (hF.tail.imp (fun h=>by rw [hsize];exact h) (fun h=>h.2.1)) fuel n listed _ w' (Nat.le_refl _) (by rw [hsize];exact hF.le) inv.size (fun j hj=>?_) (by rw [hsize];omega) ?_
  ·by_cases hjn:j<n
   ·rw [hall j hjn];simp [hjn]
   ·have h1:=inv.tail j (by omega) hj
    rw [getD_both h1]
    simp [hjn]
  ·exact hend Q0 (fun _ _ h=>h) a w' (hcong _ _ a w' (fun j hj=>hall j hj) hI)
 have main: ∀ (fuel:Nat) (listed:Array Bool) (a:Act) (w':World),HeadInv .any l.toArray n listed→Inv (fun j=>listed.getD j false) a w'→
   (l.length - n)+(List.range n).countP (fun i=> !listed.getD i true)≤fuel→wpAny P .any l.toArray Q0 fuel listed a w':=by
  intro fuel
  induction fuel with
  | zero=>
   intro listed a w' inv hI hfu
   refine done 0 listed a w' inv hI (fun j hj=>?_) (by omega)
   have h1:(List.range n).countP (fun i=> !listed.getD i true)=0:=by omega
   have h2:=List.countP_eq_zero.1 h1 j (List.mem_range.2 hj)
   rw [← l8 (by rw [inv.size,hsize];omega)]
   simpa using h2
  | succ fuel ih=>
   intro listed a w' inv hI hfu
   by_cases hall: ∀ j,j<n→listed.getD j false=true
   ·exact done (fuel+1) listed a w' inv hI hall (by omega)
   ·have hlow: ∀ i,i<n→listed.getD i true=false→(l.length - n)+(List.range n).countP (fun j=> !(listed.setIfInBounds i true).getD j true)≤fuel:=fun i hin hun=>by
     have hisz:i<listed.size:=by rw [inv.size,hsize];omega
     have:=sQ (l:=List.range n) (p:=fun i=> !listed.getD i true) (p':=fun j=> !(listed.setIfInBounds i true).getD j true) (fun x _ hx=>by
      by_cases hxi:i=x
      ·subst hxi;simp [hisz] at hx
      ·rwa [getD_set_ne true hxi] at hx) (List.mem_range.2 hin) (by simp [hun]) (by simp [hisz])
     omega
    have hset: ∀ i,i<n→ ∀ k,k<n→(listed.getD k false || Nat.beq k i)=(listed.setIfInBounds i true).getD k false:=fun i hin k hk=>by
     have hisz:i<listed.size:=by rw [inv.size,hsize];omega
     by_cases hki:k=i
     ·subst hki
      simp [hisz]
     ·rw [getD_set_ne false (Ne.symm hki)]
      have:Nat.beq k i=false:=by
       cases hbq:Nat.beq k i with
       | false=>rfl
       | true=>exact absurd (Nat.eq_of_beq_eq_true hbq) hki
      rw [this,Bool.or_false]
    have hex: ∃ j,j<n∧listed.getD j false=false:=by
     apply Classical.byContradiction
     intro hno
     refine hall fun j hj=>?_
     cases hg:listed.getD j false with
     | true=>rfl
     | false=>exact absurd ⟨j,hj,hg⟩ hno
    by_cases hfl: ∃ i o,i∈Region.ready .any l.toArray listed∧i<n∧l.toArray[i]? =some o∧n<l.length∧mem i (ru l.toArray n)=false
    ·obtain ⟨i,o,hi,hin,ho,hnl,hr⟩:=hfl
     rcases hF.tail with h2 | ⟨_,_,hsel,hcp⟩
     ·omega
     ·obtain ⟨c1,c2,c3⟩:=hcp i o hin ho hr
      obtain ⟨hun,o',ho',hdeps⟩:=mem_ready.1 hi
      have:o'=o:=Option.some.inj (ho'.symm.trans ho)
      subst this
      obtain ⟨v,hy,hI'⟩:=hcopy hnl _ i o' ho hin (getD_both hun) c1 c2 hdeps a w' hI
      have hreach: ∀ t,mem t (ru l.toArray i)=true→listed.getD t true=true:=fun t hrt=>by
       unfold ru at hrt
       rw [ho] at hrt
       have h5:=sU (L:=fun j=>listed.getD j false=true) inv.closed i _ (fun t' ht'=>by
        obtain ⟨x,hx,hb,hon⟩:=Gc (mem_of ht')
        rw [← hon];exact hdeps x hx hb) t hrt
       cases h6:listed.getD t true with
       | true=>rfl
       | false=>rw [getD_both h6] at h5;cases h5
      exact wpAny_take ho hsel (M0 hreach c3) (by simpa using hi) (fun c a w h=>h) hy (ih _ _ _ (inv.set hi hin) (hcong _ _ _ _ (hset i hin) hI') (hlow i hin hun))
    ·have hne:Region.ready .any l.toArray listed≠[]:=by
      obtain ⟨j,hj,hg⟩:=hex
      obtain ⟨k,hk⟩:=I1 hle hF.edge inv.size j j (Nat.le_refl _) hj hg
      intro h0
      rw [h0] at hk
      cases hk
     refine ⟨fun h0=>absurd h0 hne,fun i hi=>?_⟩
     have hin:i<n:=by
      rcases Nat.lt_or_ge i n with h1 | h1
      ·exact h1
      ·exfalso
       obtain ⟨_,o,ho,hdeps⟩:=mem_ready.1 hi
       have hlt:=(Array.getElem?_eq_some_iff.1 ho).1
       rcases hF.tail with h2 | ⟨hnl,hch,_,hcp⟩
       ·omega
       ·by_cases hin:i=n
        ·subst hin
         have hreach: ∀ t,mem t (ru l.toArray i)=true→listed.getD t false=true:=fun t hrt=>by
          unfold ru at hrt
          rw [ho] at hrt
          refine sU (L:=fun j=>listed.getD j false=true) inv.closed i _ (fun t' ht'=>?_) t hrt
          obtain ⟨x,hx,hb,hon⟩:=Gc (mem_of ht')
          rw [← hon];exact hdeps x hx hb
         have small: ∀ d j,j≤d→j<i→listed.getD j false=false→False:=fun d=>by
          induction d with
          | zero=>
           intro j hjd hj hg
           have hlt:j<l.toArray.size:=by omega
           refine hfl ⟨j,l.toArray[j],mem_ready.2 ⟨getD_in (by rw [inv.size];omega) hg,_,Array.getElem?_eq_getElem hlt,fun x hx hb=>?_⟩,hj,Array.getElem?_eq_getElem hlt,hnl,?_⟩
           ·have:=hF.edge j _ (Array.getElem?_eq_getElem hlt) x hx hb;omega
           ·cases hr:mem j (ru l.toArray i) with
            | false=>rfl
            | true=>rw [hreach j hr] at hg;cases hg
          | succ d ihd=>
           intro j hjd hj hg
           have hlt:j<l.toArray.size:=by omega
           refine hfl ⟨j,l.toArray[j],mem_ready.2 ⟨getD_in (by rw [inv.size];omega) hg,_,Array.getElem?_eq_getElem hlt,fun x hx hb=>?_⟩,hj,Array.getElem?_eq_getElem hlt,hnl,?_⟩
           ·have hx2:=hF.edge j _ (Array.getElem?_eq_getElem hlt) x hx hb
            cases hg2:listed.getD x.on false with
            | true=>rfl
            | false=>exact (ihd x.on (by omega) (by omega) hg2).elim
           ·cases hr:mem j (ru l.toArray i) with
            | false=>rfl
            | true=>rw [hreach j hr] at hg;cases hg
         obtain ⟨j,hj,hg⟩:=hex
         exact small j j (Nat.le_refl _) hj hg
        ·have h1':=List.all_eq_true.1 hch i (List.mem_range.2 hlt)
         simp only [Bool.or_eq_true,decide_eq_true_eq] at h1'
         rcases h1' with h3 | h3
         ·omega
         ·obtain ⟨o',ho',x,hx,hb,hon⟩:=Region.waitsFor_spec h3
          have:o'=o:=Option.some.inj (ho'.symm.trans ho)
          subst this
          have h4:=hdeps x hx hb
          rw [hon,getD_both (inv.tail (i - 1) (by omega) (by omega))] at h4
          cases h4
     obtain ⟨hun,o,ho,hdeps⟩:=mem_ready.1 hi
     exact wpOp_mono (fun a2 w2 hI2=>ih _ a2 w2 (inv.set hi hin) (hcong _ _ a2 w2 (hset i hin) hI2) (hlow i hin hun)) (hstep Q0 _ i o ho hin (getD_both hun) hdeps a w' hI)
 refine main l.toArray.size (Array.replicate l.toArray.size false) a _ ⟨by simp,fun j oj _ hl'=>(by rw [getD_replicate_false] at hl';cases hl'),fun t _ ht=>getD_in (by simpa using ht) (getD_replicate_false _ _)⟩ ?_ ?_
 ·exact hcong _ _ _ _ (fun j _=>(getD_replicate_false _ _).symm) h0
 ·have h1:=List.countP_le_length (p:=fun i=> !(Array.replicate l.toArray.size false).getD i true) (l:=List.range n)
  simp only [List.length_range] at h1
  rw [hsize]
  simp only [hsize] at h1
  omega
end
end Go.Lf
