/-
  Operations that leave all but their slot as it is: the rest of them.
-/
import Derived.Test.YthfjjohdpoekjaaGreatDoorQAA
import Derived.Laws.StructEq
import Derived.Stop.Asserts
import Derived.Deep.AppendSrc
namespace Go.Lf
open Go Go.iM
section
variable {P:Program} {N:Nat} {C:Cx} {G:World→Prop} {c:Ctx} {S:St} {Rt:Type} {kk:D→Option Rt} {r:Rt}
theorem jo {W:d_} {e:Env} {hs:List Chunk} (h:ay W S.env e hs) {x:Operand} {t:Ty} {y:t.den} (ha:gy t (S.get x)=some y) (hf:t=t.er): ∃ cs,EV e x (sv t cs)∧Rp W.φ t y cs []:=by
 generalize hd:S.get x=d at ha
 unfold gy at ha
 split at ha
 ·rename_i t' x'
  obtain ⟨cs,h1,h2,_⟩:=bD h hd
  obtain ⟨h',h3,_⟩:=eP ha h2
  have:=Rp.aP hf h3
  subst this
  exact ⟨cs,by rw [← qI ha cs];exact h1,h3⟩
 ·have h1:=I8 h hd
  split at ha<;>first | (simp [Ty.er] at hf;done) | skip
  ·simp only [Option.some.injEq] at ha
   subst ha
   exact ⟨[.slice none 0 0],h1,⟨none,0,[],rfl,Nat.le_refl _, .nil,fun h=>absurd h (by simp),rfl⟩⟩
  ·cases ha
 ·obtain ⟨v,h',h1,rfl,_⟩:=bY h hd (by intro e;cases e)
  split at ha
  ·simp only [Option.some.injEq] at ha
   subst ha
   exact ⟨[.nilIface],h1,rfl,rfl⟩
  ·simp only [Option.some.injEq] at ha
   subst ha
   exact ⟨[.nilIface],h1,⟨_,rfl,rfl⟩,rfl⟩
  ·cases ha
 ·obtain ⟨v,h',h1,rfl,_⟩:=bY h hd (by intro e;cases e)
  split at ha
  ·simp only [Option.some.injEq] at ha
   subst ha
   exact ⟨[.pointer none],h1,rfl,rfl⟩
  ·simp [Ty.er] at hf
  ·cases ha
 ·obtain ⟨v,h',h1,ad,cs,rfl,q1,q2,_⟩:=bY h hd (by intro e;cases e)
  split at ha
  ·split at ha
   ·rename_i e
    subst e
    simp only [Option.some.injEq] at ha
    subst ha
    exact ⟨[.pointer (some ad)],h1,rfl,ad,cs,rfl,q1,q2⟩
   ·cases ha
  ·split at ha
   ·rename_i e
    subst e
    simp only [Option.some.injEq] at ha
    subst ha
    exact ⟨[.pointer (some ad)],h1,ad,cs,rfl,q1,q2,rfl⟩
   ·cases ha
  ·cases ha
 ·cases ha
theorem vo {W:d_} {e:Env} {hs:List Chunk} (h:ay W S.env e hs) {x:Operand} {t:Ty} {y:t.den} (ha:gy t (S.get x)=some y) (hf:t=t.er):t.top=true:=by
 generalize hd:S.get x=d at ha
 cases d with
 | v t' x'=>obtain ⟨_,_,_,ht,_⟩:=bD h hd;exact jN ha ht
 | uW=>cases t<;>first | rfl | (simp [gy] at ha;done) | (simp [Ty.er] at hf;done)
 | RO=>cases t<;>first | rfl | (simp [gy] at ha;done)
 | Es=>cases t<;>first | rfl | (simp [gy] at ha;done)
 | Ca t' x'=>cases t<;>first | rfl | (simp [gy] at ha;done)
 | _=>simp [gy] at ha
theorem wE {W:d_} {e:Env} {hs:List Chunk} (h:ay W S.env e hs) {d a:Int} {x:Option Operand} (hb:bnd S d x=some a) {n:Nat} (hd:d=n) (h0:0≤a):NN e n x a.toNat:=by
 unfold bnd at hb
 split at hb
 ·simp only [Option.some.injEq] at hb
  subst hb
  subst hd
  exact .no
 ·split at hb
  ·rename_i y _ k b hy
   simp only [Option.some.injEq] at hb
   subst hb
   exact .yes (ak h hy) (Int.toNat_of_nonneg h0).symm
  ·cases hb
theorem Gz {α:Type} {l m:List α} {a b:Int} (h:sub l a b=some m):0≤a∧a≤b∧b≤l.length∧m=(l.drop a.toNat).take (b.toNat - a.toNat):=by
 unfold sub at h
 split at h
 ·rename_i h1
  simp only [Option.some.injEq] at h
  exact ⟨h1.1,h1.2.1,h1.2.2,h.symm⟩
 ·cases h
theorem kE.sub {φ:bL} {ad:Addr} {cs:List Value} (h:kE φ ad cs) (k m:Nat):kE φ (ad.add k) ((cs.drop k).take m):=fun j v hv=>by
 rw [List.getElem?_take] at hv
 split at hv
 ·rw [List.getElem?_drop] at hv
  rw [add_add']
  exact h _ v hv
 ·cases hv
theorem Rp.cut {φ:bL} {t:Ty} {l:List t.den} {A:Option Addr} {cc:Nat} {css:List (List Value)} (h1:l.length≤cc) (h2:bz (fun x cs=>Rp φ t x cs []) l css) (h3:nD φ A l.length css.flatten) {a b:Nat} (hab:a≤b) (hb:b≤l.length):
  Rp φ (.sl t) ((l.drop a).take (b - a)) [.slice (BK A cc a t.size) (b - a) (cc - a)] []:=by
 have hlen:((l.drop a).take (b - a)).length=b - a:=by simp;omega
 have hall: ∀ cx∈css,cx.length=t.size:=fun cx hcx=>by
  obtain ⟨ix,hix⟩:=List.getElem?_of_mem hcx
  have hlt:=(List.getElem?_eq_some_iff.1 hix).1
  rw [← h2.length] at hlt
  obtain ⟨b',hb1,hb2⟩:=h2.get (List.getElem?_eq_getElem hlt)
  rw [hix] at hb1
  injection hb1 with hb1
  subst hb1
  exact hb2.len
 refine ⟨BK A cc a t.size,cc - a,(css.drop a).take (b - a),by rw [hlen],by rw [hlen];omega,(h2.drop a).take (b - a),fun hn=>?_,rfl⟩
 rw [hlen] at hn
 obtain ⟨ad,rfl,h4⟩:=h3 (by omega)
 refine ⟨ad.add (a*t.size),by unfold BK;rw [if_neg (by omega)];rfl,?_⟩
 have hall2: ∀ cx∈css.drop a,cx.length=t.size:=fun cx hcx=>hall cx (List.mem_of_mem_drop hcx)
 rw [tF _ hall2,Au _ hall]
 exact h4.sub _ _
variable (hT: ∀ id i,look c.ty id=some i→GK P id i)
include hT
theorem iU {id:Nat} {t:Ty} (h:iy c id t=true): ∃ i,i.ty=t∧GK P id i:=by
 obtain ⟨i,h1,h2⟩:=RG h
 exact ⟨i,h2,hT _ _ h1⟩
theorem Na {tx:Nat} {x:Operand} {lo hi:Option Operand} (h:Av c tx S x lo hi kk=some r): ∃ d,kk d=some r∧Cn P N C G S (.slice tx x lo hi none) d:=by
 generalize hx:S.get x=dx at h
 unfold Av at h
 rw [hx] at h
 split at h
 ·rename_i l
  cases hb:iy c tx .str with
  | false=>rw [hb] at h;cases h
  | true=>
   rw [hb] at h
   simp only [cond_true] at h
   obtain ⟨i,hi,ho⟩:=iU hT hb
   split at h
   ·rename_i a b ha hb2
    obtain ⟨m,hm,h⟩:=Option.bind_eq_some_iff.1 h
    obtain ⟨q1,q2,q3,q4⟩:=Gz hm
    refine ⟨_,h,fun W e eh oh hs=>⟨_,DR.str,fun dst ty pos af gd=>?_⟩⟩
    exact R.ZL (ho.str hi) (l5 hs.env hx) (wE hs.env ha rfl q1) (wE hs.env hb2 rfl (by omega)) (by omega) (by omega) q4.symm
   ·cases h
 ·rename_i t l
  cases hb:iy c tx (.sl t) with
  | false=>rw [hb] at h;cases h
  | true=>
   rw [hb] at h
   simp only [cond_true] at h
   obtain ⟨i,hi,ho⟩:=iU hT hb
   split at h
   ·rename_i a b ha hb2
    obtain ⟨m,hm,h⟩:=Option.bind_eq_some_iff.1 h
    obtain ⟨q1,q2,q3,q4⟩:=Gz hm
    refine ⟨_,h,fun W e eh oh hs=>?_⟩
    obtain ⟨cs,g1,g2,_⟩:=bD hs.env hx
    obtain ⟨A,cc,css,rfl,g3,g4,g5,_⟩:=g2
    refine ⟨_,⟨_,rfl,rfl,q4▸Rp.cut g3 g4 g5 (a:=a.toNat) (b:=b.toNat) (by omega) (by omega)⟩,fun dst ty pos af gd=>?_⟩
    exact R.X6 (ho.sl t hi).1 g1 (wE hs.env ha rfl q1) (wE hs.env hb2 rfl (by omega)) (by omega) (by omega)
   ·cases h
 ·rename_i j p off
  split at h
  case h_2=>cases h
  case h_1 t' el n hl=>
  split at h
  case h_2=>cases h
  case h_1 b hb=>
  obtain ⟨k0,hk,h⟩:=Option.bind_eq_some_iff.1 h
  unfold lG at hk
  split at hk
  case isFalse=>cases hk
  case isTrue hk0=>
  injection hk with hk
  subst hk
  refine ⟨_,h,fun W e eh oh hs=>?_⟩
  obtain ⟨a,e1,hu,hsz,_⟩:=(hT _ _ hl).ar t' rfl (Nat.succ_pos _)
  exact ⟨_,⟨⟨by omega,rfl⟩,rfl⟩,fun dst ty pos af gd=>R.ZJ hu hsz (bI hs.env hx) (wE hs.env hb rfl hk0.1) (by omega)⟩
 ·cases h
theorem Np {tx:Nat} {x m:Operand} {lo hi:Option Operand} (h:slice3 c tx S x lo hi m kk=some r): ∃ d,kk d=some r∧Cn P N C G S (.slice tx x lo hi (some m)) d:=by
 generalize hx:S.get x=dx at h
 unfold slice3 at h
 rw [hx] at h
 split at h
 case h_2=>cases h
 case h_1 h0 t l=>
 generalize hh:S.get h0=dh at h
 generalize hm:S.get m=dm at h
 split at h
 case h_2=>cases h
 case h_1 k1 a k2 b=>
 cases hb:iy c tx (.sl t) with
 | false=>rw [hb] at h;cases h
 | true=>
  rw [hb] at h
  simp only [cond_true] at h
  obtain ⟨i,hi,ho⟩:=iU hT hb
  obtain ⟨_,hf,h⟩:=Option.bind_eq_some_iff.1 h
  unfold full at hf
  split at hf
  case isFalse=>cases hf
  case isTrue he=>
  refine ⟨_,h,fun W e eh oh hs=>?_⟩
  obtain ⟨cs,g1,g2,_⟩:=bD hs.env hx
  obtain ⟨A,cc,css,rfl,g3,g4,g5,_⟩:=g2
  obtain ⟨cs1,k1',⟨rfl,_⟩,_⟩:=bD hs.env hh
  obtain ⟨cs2,k2',⟨rfl,_⟩,_⟩:=bD hs.env hm
  have hc:=Rp.cut (Nat.le_refl _) g4 g5 (a:=0) (b:=List.length l) (by omega) (Nat.le_refl _)
  simp only [Nat.sub_zero,List.drop_zero] at hc
  rw [List.take_of_length_le (Nat.le_refl _)] at hc
  obtain ⟨A',c',css',e1,_,q4,q5,_⟩:=hc
  refine ⟨_,⟨[.slice (BK A (List.length l) 0 t.size) (List.length l) (List.length l)],rfl,rfl,A',css',?_,q4,q5,rfl⟩,fun dst ty pos af gd=>R.ZR (ho.sl t hi).1 g1 g3 k1' k2' he.1 he.2⟩
  injection e1 with e1
  injection e1 with e2 e3 e4
  rw [e2]
theorem Su {tx:Nat} {x:Operand} {args:Array Operand} {og:Array TypeId} (h1:args.toList=[x]) (h2:og.toList=[tx]) (h:Mv c tx S kk (S.get x)=some r): ∃ d,kk d=some r∧Cn P N C G S (.call ⟨.builtin .len,args,og⟩) d:=by
 have e1:args= #[x]:=by rw [← Array.toArray_toList (xs:=args),h1]
 have e2:og= #[tx]:=by rw [← Array.toArray_toList (xs:=og),h2]
 subst e1 e2
 generalize hx:S.get x=dx at h
 unfold Mv at h
 split at h
 ·rename_i t l
  cases hb:iy c tx (.sl t) with
  | false=>rw [hb] at h;cases h
  | true=>
   rw [hb] at h
   obtain ⟨i,hi,ho⟩:=iU hT hb
   refine ⟨_,h,fun W e eh oh hs=>⟨_,DR.int,fun dst ty pos af gd=>?_⟩⟩
   obtain ⟨cs,g1,g2,_⟩:=bD hs.env hx
   obtain ⟨A,cc,css,rfl,_⟩:=g2
   exact R.Sj (ho.sl t hi).1 g1
 ·rename_i l
  cases hb:iy c tx .str with
  | false=>rw [hb] at h;cases h
  | true=>
   rw [hb] at h
   obtain ⟨i,hi,ho⟩:=iU hT hb
   exact ⟨_,h,fun W e eh oh hs=>⟨_,DR.int,fun dst ty pos af gd=>R.lens (ho.str hi) (l5 hs.env hx)⟩⟩
 ·split at h
  ·rename_i t el sz hl
   exact ⟨_,h,fun W e eh oh hs=>⟨_,DR.int,fun dst ty pos af gd=>R.Sj ((hT _ _ hl).sl t rfl).1 (I8 hs.env hx)⟩⟩
  ·cases h
 ·rename_i j p off
  split at h
  ·rename_i el t l hat
   cases hb:iy c tx (.sl t) with
   | false=>rw [hb] at h;cases h
   | true=>
    rw [hb] at h
    obtain ⟨i,hi,ho⟩:=iU hT hb
    refine ⟨_,h,fun W e eh oh hs=>⟨_,DR.int,fun dst ty pos af gd=>?_⟩⟩
    obtain ⟨v,g1,g2⟩:=sN hs.env hx
    obtain ⟨ob,pre,mid,post,x1,x2,x3,rr,q1,q2,q3,q4,q5⟩:=lV hs.l9 hat
    obtain ⟨A',cc',css,m1,_⟩:=q4
    subst m1
    have:v= .slice A' (List.length l) cc':=by
     rw [q2, ← q3] at g2
     simpa using g2.symm
    subst this
    exact R.Sj (ho.sl t hi).1 g1
  ·rename_i el a t l hat
   cases hb:iy c tx (.sl a) with
   | false=>rw [hb] at h;cases h
   | true=>
    rw [hb] at h
    obtain ⟨i,hi,ho⟩:=iU hT hb
    refine ⟨_,h,fun W e eh oh hs=>⟨_,DR.int,fun dst ty pos af gd=>?_⟩⟩
    obtain ⟨v,g1,g2⟩:=sN hs.env hx
    obtain ⟨ob,pre,mid,post,x1,x2,x3,rr,q1,q2,q3,q4,q5⟩:=lV hs.l9 hat
    have: ∃ A' cc',mid=[.slice A' (Jy l) cc']:=by
     cases l with
     | none=>exact ⟨none,0,q4.1⟩
     | some y=>obtain ⟨A',cc',_,_,_,m1,_⟩:=q4;exact ⟨some A',cc',m1⟩
    obtain ⟨A',cc',rfl⟩:=this
    have:v= .slice A' (Jy l) cc':=by
     rw [q2, ← q3] at g2
     simpa using g2.symm
    subst this
    exact R.Sj (ho.sl a hi).1 g1
  ·cases h
 ·cases h
omit hT in
theorem nD.get {φ:bL} {t:Ty} {l:List t.den} {A:Option Addr} {css:List (List Value)} (h2:bz (fun x cs=>Rp φ t x cs []) l css) (h3:nD φ A l.length css.flatten) {n:Nat} {x:t.den} (hx:l[n]? =some x):
  ∃ ad ce,A=some ad∧Rp φ t x ce []∧kE φ (ad.add (n*t.size)) ce:=by
 have hlt:=(List.getElem?_eq_some_iff.1 hx).1
 obtain ⟨ad,rfl,h4⟩:=h3 (by omega)
 obtain ⟨ce,g1,g2⟩:=h2.get hx
 have hall: ∀ cx∈css,cx.length=t.size:=fun cx hcx=>by
  obtain ⟨ix,hix⟩:=List.getElem?_of_mem hcx
  have hlt:=(List.getElem?_eq_some_iff.1 hix).1
  rw [← h2.length] at hlt
  obtain ⟨b',hb1,hb2⟩:=h2.get (List.getElem?_eq_getElem hlt)
  rw [hix] at hb1
  injection hb1 with hb1
  subst hb1
  exact hb2.len
 refine ⟨ad,ce,rfl,g2,fun j v hv=>?_⟩
 rw [add_add']
 exact h4 _ v (flat_get css hall n ce g1 j v hv)
omit hT in
theorem FX {α:Type} {l:List α} {i:Int} {x:α} (h:idx l i=some x):0≤i∧l[i.toNat]? =some x:=by
 unfold idx at h
 split at h
 ·exact ⟨‹_›,h⟩
 ·cases h
omit hT in
theorem OU {n m:Nat} {i:Int} (h:lG n i=some m):i=(m:Int)∧m<n:=by
 unfold lG at h
 split at h
 ·simp only [Option.some.injEq] at h
  omega
 ·cases h
omit hT in
theorem Gr {φ:bL} {t:Ty} {p:List Dir} {y:t.den} {z:Dn} {ad:Addr} {cs:List Value} (hg:aU t p y=some z) (r:Rp φ t y cs []) (h:kE φ ad cs): ∃ cs',Rp φ z.1 z.2 cs' []∧kE φ (ad.add (aH t p)) cs':=by
 obtain ⟨pre,mid,post,y1,y2,y3,f1,f2,f3,f4⟩:=sD hg r
 have hnil:y2=[]:=by
  have:y1++y2++y3=[]:=f3.symm
  simp at this
  exact this.2.1
 subst hnil
 refine ⟨mid,f4,fun j v hv=>?_⟩
 rw [add_add']
 refine h _ v ?_
 rw [f1, ← f2,List.append_assoc,List.getElem?_append_right (by omega),show pre.length+j - pre.length=j by omega,List.getElem?_append_left (by exact (List.getElem?_eq_some_iff.1 hv).1)]
 exact hv
end
def Gf (φ:bL):Md→Addr→Value→Prop
 | .dir,ad,v=>v= .pointer (some ad)
 | .sJ,ad,v=> ∃ c,v= .pointer (some c)∧φ c=some (.pointer (some ad))
 | .bnd g,ad,v=>v= .func (.func g) #[.pointer (some ad)] #[]
 | .Ui te,ad,v=>v= .iface te (.pointer (some ad))
theorem Gf.mono {φ ψ:bL} (hle:φ.le ψ) {m:Md} {ad:Addr} {v:Value} (h:Gf φ m ad v):Gf ψ m ad v:=by
 cases m with
 | dir=>exact h
 | sJ=>obtain ⟨c,h1,h2⟩:=h;exact ⟨c,h1,hle _ _ h2⟩
 | Ui te=>exact h
 | bnd g=>exact h
theorem Gf.dr {W:d_} {m:Md} {j:Nat} {p:List Dir} {o:Nat} {v:Value} {h:List Chunk}:DR W (m.d j p o) v h↔Gf W.φ m ⟨W.aA j,o,none⟩ v∧h=[]:=by
 cases m with
 | dir=>exact Iff.rfl
 | sJ=>exact Iff.rfl
 | Ui te=>exact Iff.rfl
 | bnd g=>
  constructor
  ·rintro ⟨⟨vs,h1,h2⟩,h3⟩
   cases h1 with
   | cons h4 h5=>
    cases h5
    have h4:_=Value.pointer (some ⟨W.aA j,o,none⟩):=h4
    subst h4
    exact ⟨h2,h3⟩
  ·rintro ⟨h1,h2⟩
   exact ⟨⟨[_], .cons rfl .nil,h1⟩,h2⟩
theorem Md.Py {m:Md} {d:D} {j:Nat} {p:List Dir} {o:Nat} (h:m.of d=some (j,p,o)):d=m.d j p o:=by
 unfold Md.of at h
 split at h
 ·cases h;rfl
 ·cases h;rfl
 ·rename_i g g' j' p' o'
  cases hb:Nat.beq g g' with
  | false=>rw [hb] at h;cases h
  | true=>
   rw [hb] at h
   cases h
   rw [Nat.eq_of_beq_eq_true hb];rfl
 ·rename_i te te' j' p' o'
  cases hb:Nat.beq te te' with
  | false=>rw [hb] at h;cases h
  | true=>
   rw [hb] at h
   cases h
   rw [Nat.eq_of_beq_eq_true hb];rfl
 ·cases h
def Q7 (P:Program) (a:Nat) (l:List (Nat×Bool)):Prop:= ∀ t b,look l t=some b→ ∀ (v:Value) (xT:TypeId) (w:World),(Instr.typeAssert (.iface t v) xT a true).run P w= .ok (.tuple #[if b then .iface t v else .nilIface, .bool b]) w
inductive bP (φ:bL):(ps:List fq)→ai (ps.map fq.ty)→List Value→List (Nat×Nat)→List Chunk→Prop
 | nil {z:ai (([]:List fq).map fq.ty)}:bP φ [] z [] [] []
 | val {t:Ty} {r:List fq} {z:ai ((fq.val t::r).map fq.ty)} {cs:List Value} {h hs:List Chunk} {vs:List Value} {gs:List (Nat×Nat)}:t.top=true→Rp φ t (uO (r.map fq.ty) z) cs h→bP φ r (iD (r.map fq.ty) z) vs gs hs→bP φ (.val t::r) z (sv t cs::vs) gs (h++hs)
 | Bv {g:Nat} {r:List fq} {z:ai ((fq.Bv g::r).map fq.ty)} {hs:List Chunk} {vs:List Value} {gs:List (Nat×Nat)}:bP φ r (iD (a:= .unit) (r.map fq.ty) z) vs gs hs→bP φ (.Bv g::r) z (.func (.func g) #[] #[]::vs) gs hs
 | obj {tid:Nat} {t t':Ty} {p:List Dir} {m:Md} {r:List fq} {z:ai ((fq.obj tid t t' p m::r).map fq.ty)} {cs:List Value} {h hs:List Chunk} {v:Value} {vs:List Value} {g:Nat} {gs:List (Nat×Nat)}:Rp φ t (uO (r.map fq.ty) z) cs h→Gf φ m ⟨g,aH t p,none⟩ v→bP φ r (iD (r.map fq.ty) z) vs gs hs→
   bP φ (.obj tid t t' p m::r) z (v::vs) ((g,tid)::gs) (blk g tid cs::h++hs)
def Sl (φ:bL) (L:List Dn) (v:Value) (h:List Chunk):Prop:= ∃ vs,ji φ L vs h∧v=FT vs
inductive GY (φ:bL):List (Nat×Nat)→List Dn→List Chunk→Prop
 | nil:GY φ [] [] []
 | cons {g tid:Nat} {t:Ty} {x:t.den} {cs:List Value} {h hs:List Chunk} {gs:List (Nat×Nat)} {L:List Dn}:Rp φ t x cs h→GY φ gs L hs→GY φ ((g,tid)::gs) (⟨t,x⟩::L) (blk g tid cs::h++hs)
structure aa (P:Program) (G:World→Prop) (f:Nat) (e:Entry):Prop where
 go:zy P f
 top: ∀ t,fq.val t∈e.ps→t.top=true
 ok: ∀ (z:ai (e.ps.map fq.ty)) (r:ai (e.rs++outs e.ps)),e.f z=some r→ ∀ (C:Cx) (φ:bL) (vals:List Value) (gs:List (Nat×Nat)) (hs:List Chunk),bP φ e.ps z vals gs hs→Hb C C.w0 hs (Inv G φ)→
  Calls P f vals.toArray C.w0 fun x w'=> ∃ v φ' h1 h2,x= .returned v∧φ.le φ'∧Hb C w' (h1++h2) (Inv G φ')∧Sl φ' ((aI (e.rs++outs e.ps) r).take e.rs.length) v h1∧GY φ' gs ((aI (e.rs++outs e.ps) r).drop e.rs.length) h2
structure JM (P:Program) (G:World→Prop) (v:Iv):Prop where
 ok: ∀ (e:Er) (r:ai v.rs),v.f e=some r→ ∀ (C:Cx) (φ:bL) (u:Value),JF φ e u→Hb C C.w0 [] (Inv G φ)→
  ∃ (f:FuncId) (rc:Value),(∀ w,(callMethod u v.m #[]).run P w= .ok (.enter f #[rc]) w)∧Calls P f #[rc] C.w0 fun x w'=> ∃ vv φ' h1,x= .returned vv∧φ.le φ'∧Hb C w' h1 (Inv G φ')∧Sl φ' (aI v.rs r) vv h1
structure F3 (P:Program) (G:World→Prop) (f:Nat) (i:Ip):Prop where
 go:zy P f
 flat:i.t.flat=true
 ok: ∀ (z:i.t.den) (m:Option Nat),i.f z=some m→ ∀ (C:Cx) (φ:bL) (g:Nat) (cs:List Value),Rp φ i.t z cs []→Hb C C.w0 [blk g i.tid cs] (Inv G φ)→
  Calls P f [Value.pointer (some ⟨g,aH i.t i.p0,none⟩)].toArray C.w0 fun x w'=>x= .returned (Xa g i.o i.sz 0 m)∧Hb C w' [blk g i.tid cs] (Inv G φ)
mutual
def UF (P:Program):Ty→TypeId→Bool
 | .int k,id=>yG P id k
 | .bool,id=>NJ P id
 | .str,id=>IK P id
 | .st t,id=>NK P id t.size && (!P.stoodInHeld id) && (match P.underlying id with | some (.struct fs)=>Q5 P t 0 fs.toList | _=>false)
 | _,_=>false
def Q5 (P:Program):Ty→Nat→List Field→Bool
 | .unit,_,[]=>true
 | .pr a b,off,f::fs=>(f.name != "_") && Nat.beq f.offset off && UF P a f.type && Q5 P b (off+a.size) fs
 | _,_,_=>false
end
def Ty.dp:Ty→Nat
 | .st t=>t.dp+1
 | .pr a b=>max a.dp b.dp
 | _=>0
def CW (P:Program) (id:TypeId) (t:Ty):Bool:=UF P (.st t) id && (!P.eqGuardType P.depth id) && Nat.ble t.dp 9000 && t.flat
structure aO (P:Program) (G:World→Prop) (c:Ctx):Prop where
 ty: ∀ id i,look c.ty id=some i→GK P id i
 fn: ∀ f e,look c.fn f=some e→aa P G f e
 ip: ∀ f i,look c.ip f=some i→F3 P G f i
 eqs: ∀ id t,look c.eqs id=some t→CW P id t=true
 im: ∀ a l,look c.im a=some l→Q7 P a l
 iv: ∀ d v,look c.iv d=some v→JM P G v
 fx: ∀ d p,look c.fx d=some p→aa P G p.1 p.2
theorem zM {P:Program} {G:World→Prop} {c:Ctx} (hc:aO P G c) {d:Option Nat} {f:Nat} {e:Entry} (h:EI c d f=some e):aa P G f e:=by
 unfold EI at h
 split at h
 ·split at h
  ·rename_i g e' hx
   cases hb:Nat.beq g f with
   | false=>rw [hb] at h;cases h
   | true=>
    rw [hb] at h
    injection h with h
    subst h
    have:=Nat.eq_of_beq_eq_true hb
    subst this
    exact hc.fx _ _ hx
  ·exact hc.fn _ _ h
 ·exact hc.fn _ _ h
theorem DR.res {W:d_} {L:List Dn} {v:Value} {h:List Chunk} (hr:Sl W.φ L v h):DR W (M4 L) v h:=by
 obtain ⟨vs,h1,rfl⟩:=hr
 unfold M4
 split
 ·cases h1 with
  | cons h2 h3 h4=>
   cases h4
   exact ⟨_,h2,rfl,by simpa using h3⟩
 ·rename_i hne
  refine ⟨vs,?_,h1⟩
  cases h1 with
  | nil=>rfl
  | @cons t x cs h hs l vs h2 h3 h4=>
   cases h4 with
   | nil=>exact absurd rfl (hne t x)
   | cons=>rfl
section
variable (P:Program) (N:Nat) (C:Cx) (G:World→Prop)
def VB (S:St) (o:Op) (d:D):Prop:= ∀ W e eh oh,aZ S W e eh oh→ ∃ v,DR W d v []∧ ∀ dst ty pos af gd a w,Fr a N e→Hb C w (eh++oh) (Inv G W.φ)→
 match (execOp a.eval ⟨dst,o,ty,pos,af,gd⟩).run P w with
 | .ok (.value u) w'=>u=v∧Hb C w' (eh++oh) (Inv G W.φ)
 | .ok (.enter f args) w'=>Calls P f args w' fun x w''=>x= .returned v∧Hb C w'' (eh++oh) (Inv G W.φ)
 | _=>False
end
section
variable {P:Program} {N:Nat} {C:Cx} {G:World→Prop} {c:Ctx} {S:St} {Rt:Type} {kk:D→Option Rt} {r:Rt}
theorem Cn.ZZ {o:Op} {d:D} (h:Cn P N C G S o d):VB P N C G S o d:=fun W e eh oh hs=>by
 obtain ⟨v,h1,h2⟩:=h W e eh oh hs
 refine ⟨v,h1,fun dst ty pos af gd a w hf hb=>?_⟩
 rw [h2 dst ty pos af gd a w hf hb]
 exact ⟨rfl,hb⟩
def aL:(t:Ty)→t.den→List Value
 | .int k,x=>[.int k x]
 | .bool,x=>[.bool x]
 | .str,x=>[iM.str x]
 | .st t,x=>aL t x
 | .pr a b,x=>aL a x.1++aL b x.2
 | _,_=>[]
def F6 (d:Dn):Value:=sv d.1 (aL d.1 d.2)
theorem jK {φ:bL}: ∀ {t:Ty} {x:t.den} {cs:List Value} {h:List Chunk},t.flat=true→Rp φ t x cs h→cs=aL t x∧h=[]
 | .int _,_,_,_,_,r=>r
 | .bool,_,_,_,_,r=>r
 | .str,_,_,_,_,r=>r
 | .unit,_,_,_,_,r=>r
 | .st t,x,cs,h,hf,r=>jK (t:=t) hf r
 | .pr a b,x,cs,h,hf,r=>by
  have hf:(a.flat && b.flat)=true:=hf
  rw [Bool.and_eq_true] at hf
  obtain ⟨c1,c2,h1,h2,e1,e2,r1,r2⟩:=r
  obtain ⟨q1,q2⟩:=jK hf.1 r1
  obtain ⟨q3,q4⟩:=jK hf.2 r2
  exact ⟨by rw [e1,q1,q3];rfl,by rw [e2,q2,q4];rfl⟩
theorem tY {φ:bL}: ∀ {t:Ty} {x:t.den},t.flat=true→Rp φ t x (aL t x) []
 | .int _,_,_=>⟨rfl,rfl⟩
 | .bool,_,_=>⟨rfl,rfl⟩
 | .str,_,_=>⟨rfl,rfl⟩
 | .unit,_,_=>⟨rfl,rfl⟩
 | .st t,x,hf=>tY (t:=t) hf
 | .pr a b,x,hf=>by
  have hf:(a.flat && b.flat)=true:=hf
  rw [Bool.and_eq_true] at hf
  exact ⟨_,_,[],[],rfl,rfl,tY hf.1,tY hf.2⟩
theorem MS {φ:bL} {L:List Dn} {vs:List Value} {h:List Chunk} (ht:ji φ L vs h) (hp: ∀ d∈L,d.1.plain=true):vs=L.map F6∧h=[]∧ ∀ ψ,ji ψ L vs []:=by
 induction ht with
 | nil=>exact ⟨rfl,rfl,fun _=> .nil⟩
 | @cons t x cs h hs l vs h1 h2 h3 ih=>
  obtain ⟨e1,e2,e3⟩:=ih fun d hd=>hp d (List.mem_cons_of_mem _ hd)
  have hpl:=hp ⟨t,x⟩ List.mem_cons_self
  have hpl:(t.flat && t.top)=true:=hpl
  rw [Bool.and_eq_true] at hpl
  have:sv t cs=F6 ⟨t,x⟩∧h=[]∧ ∀ ψ,Rp ψ t x cs []:=by
   obtain ⟨e4,e5⟩:=jK hpl.1 h2
   subst e4
   exact ⟨rfl,e5,fun ψ=>tY hpl.1⟩
  exact ⟨by rw [this.1,e1];rfl,by rw [this.2.1,e2];rfl,fun ψ=>by simpa using ji.cons h1 (this.2.2 ψ) (e3 ψ)⟩
theorem Hr {φ:bL}: ∀ {L:List Dn},(∀ d∈L,d.1.plain=true)→ji φ L (L.map F6) []
 | [],_=> .nil
 | ⟨t,x⟩::l,h=>by
  have h1:=h ⟨t,x⟩ List.mem_cons_self
  have h2:=Hr (φ:=φ) (L:=l) fun d hd=>h d (List.mem_cons_of_mem _ hd)
  have h1:(t.flat && t.top)=true:=h1
  rw [Bool.and_eq_true] at h1
  exact ji.cons (t:=t) (x:=x) (cs:=aL t x) (h:=[]) (hs:=[]) h1.2 (tY h1.1) h2
def cellsOf (w:World):bL:=⟨fun a=>w.cell? a,fun g=> ∃ cs t,w.heap[g]? =some (.cells cs t (0,0))⟩
theorem zN {φ:bL} {t t':Ty} (e:t=t') {x:t.den} {cs:List Value} {h:List Chunk} (r:Rp φ t x cs h):Rp φ t' (ma e x) cs h:=by subst e;exact r
theorem wO {φ:bL} {w:World} (hle:φ.le (cellsOf w)): ∀ {t:Ty} {x:t.den} {y:t.er.den} {cs:List Value} {hs:List Chunk},El t x=some y→Rp φ t x cs hs→(∀ c∈hs,c.holds w)→Rp (cellsOf w) t.er y cs []
 | .int _,x,y,cs,hs,e,r,_=>by have e:some x=some y:=e;injection e with e;subst e;exact ⟨r.1,rfl⟩
 | .bool,x,y,cs,hs,e,r,_=>by have e:some x=some y:=e;injection e with e;subst e;exact ⟨r.1,rfl⟩
 | .str,x,y,cs,hs,e,r,_=>by have e:some x=some y:=e;injection e with e;subst e;exact ⟨r.1,rfl⟩
 | .unit,x,y,cs,hs,e,r,_=>⟨r.1,rfl⟩
 | .it,x,y,cs,hs,e,r,_=>by obtain ⟨g,p,h1,_⟩:=r;exact ⟨g,h1,rfl⟩
 | .xX,x,y,cs,hs,e,r,_=>by obtain ⟨g,h1,_⟩:=r;exact ⟨g,h1,rfl⟩
 | .dead _ _,x,y,cs,hs,e,r,_=>by cases e
 | .sl t,x,y,cs,hs,e,r,_=>by
  have e:(some x:Option (List t.den))=some y:=e
  injection e with e;subst e
  obtain ⟨A,c,css,h1,h2,h3,h4,_⟩:=r
  exact ⟨A,c,css,h1,h2,h3.imp fun _ _ h=>h.mono hle,h4.mono hle,rfl⟩
 | .rw _ t,x,y,cs,hs,e,r,_=>by
  have e:(some x:Option (List t.den))=some y:=e
  injection e with e;subst e
  obtain ⟨A,c,css,h1,h2,h3,h4,_⟩:=r
  exact ⟨A,c,css,h1,h2,h3.imp fun _ _ h=>h.mono hle,h4.mono hle,rfl⟩
 | .mr el t,x,y,cs,hs,e,r,hh=>by
  have e:(some x:Option (List t.den))=some y:=e
  injection e with e;subst e
  obtain ⟨A,c,css,h1,h2,h3,h4,h5⟩:=r
  have hr:w.ownsRow 0 el t.size (.slice A (List.length x) c) (List.length x) css.flatten:=hh (.row false (.slice A (List.length x) c) el t.size (List.length x) css.flatten) (by rw [h5];exact List.mem_cons_self)
  refine ⟨A,c,css,h1,h2,h3.imp fun _ _ h=>h.mono hle,fun hn=>?_,rfl⟩
  obtain ⟨r1,r2⟩:=Rd.Al hr
  cases hz:css.flatten with
  | nil=>
   obtain ⟨ad,hA⟩:=Option.isSome_iff_exists.1 (h4 hn)
   exact ⟨ad,hA,fun j v hv=>by cases hv⟩
  | cons u q=>
   obtain ⟨ad,hA,h6⟩:=r2 (by rw [hz];exact Nat.succ_pos _)
   exact ⟨ad,hA,fun j v hv=>h6 j v (by rw [hz];exact hv)⟩
 | .ptr _,x,y,cs,hs,e,r,_=>by
  have e:some x=some y:=e
  injection e with e;subst e
  obtain ⟨ad,cs',h1,h2,h3,_⟩:=r
  exact ⟨ad,cs',h1,h2.mono hle,h3.mono hle,rfl⟩
 | .eb _ t,x,y,cs,hs,e,r,_=>by
  have e:(some x:Option (Option t.den))=some y:=e
  injection e with e;subst e
  have h1:=r.1
  subst h1
  exact Rp.mono hle r
 | .on t,x,y,cs,hs,e,r,_=>by
  have e:(some x:Option (List t.den))=some y:=e
  injection e with e;subst e
  obtain ⟨A,c,css,h1,h2,h3,h4,h5,_⟩:=r
  exact ⟨A,c,css,h1,h2,h3.imp fun _ _ h=>h.mono hle,h4.mono hle,h5,rfl⟩
 | .fl t,x,y,cs,hs,e,r,_=>by
  have e:(some x:Option (List t.den))=some y:=e
  injection e with e;subst e
  obtain ⟨A,css,h1,h3,h4,_⟩:=r
  exact ⟨A,css,h1,h3.imp fun _ _ h=>h.mono hle,h4.mono hle,rfl⟩
 | .op t,x,y,cs,hs,e,r,_=>by
  have e:(some x:Option (Option t.den))=some y:=e
  injection e with e;subst e
  have h1:=r.1
  subst h1
  exact Rp.mono hle r
 | .bx _ _,x,y,cs,hs,e,r,_=>by obtain ⟨g,_,_,h1,_⟩:=r;exact ⟨g,h1,rfl⟩
 | .bo _ t,x,y,cs,hs,e,r,_=>by
  have e:(some (Option.isSome (x:Option t.den)):Option Bool)=some y:=e
  injection e with e;subst e
  cases x with
  | none=>exact ⟨⟨none,r.1,rfl⟩,rfl⟩
  | some z=>obtain ⟨g,_,_,h1,_⟩:=r;exact ⟨⟨some _,h1,rfl⟩,rfl⟩
 | .bn,x,y,cs,hs,e,r,_=>by have e:some x=some y:=e;injection e with e;subst e;exact ⟨r.1,rfl⟩
 | .tr,x,y,cs,hs,e,r,_=>by
  have e:some x=some y:=e
  injection e with e;subst e
  have h1:=r.2
  subst h1
  exact Rp.mono hle r
 | .ml el a t,x,y,cs,hs,e,r,hh=>by
  cases x with
  | none=>
   have e:(some ([]:List a.den))=some y:=e
   injection e with e;subst e
   exact ⟨none,0,[],r.1,Nat.le_refl _, .nil,fun h=>absurd h (by simp),rfl⟩
  | some z=>
   have e:(if h:t.er=a then (match El t z.2 with | some e=>some (z.1++[ma h e]) | none=>none) else none)=some y:=e
   split at e
   case isFalse=>cases e
   case isTrue hta=>
   split at e
   case h_2=>cases e
   case h_1 u hu=>
   injection e with e;subst e
   obtain ⟨A,c,css,ce,he,h1,h2,h3,h4,h5,h6⟩:=r
   have h7:=wO hle hu h4 (fun c hc=>hh c (by rw [h6];exact List.mem_cons_of_mem _ hc))
   have hr:w.ownsRow 0 el t.size (.slice (some A) (z.1.length+1) c) (z.1.length+1) (css.flatten++ce):=hh (.row false _ el t.size _ _) (by rw [h6];exact List.mem_cons_self)
   obtain ⟨r1,r2⟩:=Rd.Al hr
   have hl:List.length (z.1++[ma hta u])=z.1.length+1:=by simp
   refine ⟨some A,c,css++[ce],by rw [hl];exact h1,by rw [hl];exact h2,(h3.imp fun _ _ h=>h.mono hle).append (.one (zN hta h7)),fun _=>⟨A,rfl,fun j v hv=>?_⟩,rfl⟩
   simp only [List.flatten_append,List.flatten_cons,List.flatten_nil,List.append_nil] at hv
   obtain ⟨ad,hA,h8⟩:=r2 (Nat.lt_of_le_of_lt (Nat.zero_le _) (List.getElem?_eq_some_iff.1 hv).1)
   injection hA with hA
   subst hA
   exact h8 j v hv
 | .st t,x,y,cs,hs,e,r,hh=>wO (t:=t) hle e r hh
 | .pr a b,x,y,cs,hs,e,r,hh=>by
  have e:(match El a x.1,El b x.2 with | some y,some z=>some (y,z) | _,_=>none)=some y:=e
  split at e
  case h_2=>cases e
  case h_1 u v hu hv=>
  injection e with e;subst e
  obtain ⟨c1,c2,k1,k2,e1,e2,r1,r2⟩:=r
  exact ⟨c1,c2,[],[],e1,rfl,wO hle hu r1 (fun c hc=>hh c (by rw [e2];exact List.mem_append_left _ hc)),wO hle hv r2 (fun c hc=>hh c (by rw [e2];exact List.mem_append_right _ hc))⟩
theorem addr_add (g o j:Nat):(⟨g,o,none⟩:Addr).add j=⟨g,o+j,none⟩:=by unfold Addr.add;split<;>simp_all
theorem Im {φ ψ:bL} {a:Ty} (hf:a.flat=true): ∀ {n:Nat} {y:(fB a n).den} {cs:List Value} {h:List Chunk},Rp φ (fB a n) y cs h→ ∃ css,bz (fun x c=>Rp ψ a x c []) (kD a n y) css∧css.flatten=cs∧(∀ c∈css,c.length=a.size)∧(kD a n y).length=n
 | 0,y,cs,h,r=>by
  have r:cs=[]∧h=[]:=r
  exact ⟨[], .nil,by rw [r.1];rfl,fun c hc=>(by cases hc),rfl⟩
 | n+1,y,cs,h,r=>by
  obtain ⟨c1,c2,h1,h2,e1,e2,r1,r2⟩:=r
  obtain ⟨css,q1,q2,q3,q4⟩:=Im (φ:=φ) (ψ:=ψ) hf (n:=n) (y:=y.2) r2
  obtain ⟨e3,_⟩:=jK hf r1
  refine ⟨c1::css, .cons (by rw [e3];exact tY hf) q1,by rw [List.flatten_cons,q2,e1],fun c hc=>?_,?_⟩
  ·rcases List.mem_cons.1 hc with rfl | hc
   ·exact r1.len
   ·exact q3 c hc
  ·show (kD a n y.2).length+1=n+1
   rw [q4]
theorem JE {t:Ty} {d:Option Dn} {y:t.den} (h:Lb t d=some y): ∃ t' y' z,d=some ⟨t',y'⟩∧El t' y'=some z∧ ∃ e:t'.er=t,y=ma e z:=by
 unfold Lb at h
 split at h
 ·split at h
  ·rename_i he
   split at h
   ·rename_i z hz
    injection h with h
    exact ⟨_,_,z,rfl,hz,he,h.symm⟩
   ·cases h
  ·cases h
 ·cases h
theorem Ls {W:d_} {e:Env} {eh oh:List Chunk} (hs:aZ S W e eh oh) {t:Ty} {x:Operand} {y:t.den} (h:KD S t x=some y) (ht:t=t.er): ∃ v,EV e x v∧ ∀ w,Hb C w (eh++oh) (Inv G W.φ)→ ∃ cs,v=sv t cs∧Rp (cellsOf w) t y cs []:=by
 unfold KD at h
 generalize hx:S.get x=dx at h
 split at h
 ·rename_i t1 j p o
  obtain ⟨t',y',z,h1,h2,he,rfl⟩:=JE h
  obtain ⟨tid,pre,mid,post,k2,q1,q2,q3,q4,q5⟩:=gX hs.l9 h1
  refine ⟨_,bI hs.env hx,fun w hb=>⟨[_],rfl,_,mid,rfl,zN he (wO ⟨fun a v ha=>hb.get.2 a v ha,hb.get.2.blk⟩ h2 q3 (fun c hc=>hb.hp.hold c (List.mem_append_right _ (q5 c hc)))),fun j' v hv=>?_,rfl⟩⟩
  have hh:(blk (W.aA j) tid (W.hd j)).holds w:=hb.has (List.mem_append_right _ q4)
  have h9:=rT hh (j:=o+j') (v:=v) (by rw [q1, ← q2,List.append_assoc,List.getElem?_append_right (by omega),show pre.length+j' - pre.length=j' by omega,List.getElem?_append_left (by exact (List.getElem?_eq_some_iff.1 hv).1)];exact hv)
  show w.cell? ((⟨W.aA j,o,none⟩:Addr).add j')=some v
  rw [← h9]
  unfold Addr.add
  split<;>simp_all
 ·rename_i t1 j p o
  obtain ⟨t',y',z,h1,h2,he,rfl⟩:=JE h
  obtain ⟨ob,pre,mid,post,k1,k2,k3,rr,q1,q2,q3,q4,q5⟩:=lV hs.l9 h1
  obtain ⟨v,g1,g2⟩:=sN hs.env hx
  have hl:mid.length=1:=by rw [q4.len];show t'.size=1;rw [← Ty.aF,he];rfl
  match mid,hl,q2,q4 with
  | [u],_,q2,q4=>
   have hu:u=v:=by
    rw [q2, ← q3] at g2
    simpa using g2
   subst hu
   refine ⟨u,g1,fun w hb=>⟨[u],rfl,zN he (wO ⟨fun a v ha=>hb.get.2 a v ha,hb.get.2.blk⟩ h2 q4 (fun c hc=>hb.hp.hold c (List.mem_append_right _ (q5.mem_iff.2 ?_))))⟩⟩
   simp [hc]
 ·rename_i t1 j p o k n
  unfold Wh at h
  split at h
  case h_2=>cases h
  case h_1 t y0 hat=>
  split at h
  case h_2=>cases h
  case h_1 l hl=>
  cases hb2:(t1.flat && Nat.beq n (nf t)) with
  | false=>rw [hb2] at h;cases h
  | true=>
  rw [hb2] at h
  simp only [cond_true] at h
  injection h with h
  subst h
  rw [Bool.and_eq_true] at hb2
  obtain ⟨hfl,hn⟩:=hb2
  have hn:=Nat.eq_of_beq_eq_true hn
  obtain ⟨M,e1,e2⟩:=Kv hl
  subst e1
  have hnM:n=M:=hn.trans Df
  subst hnM
  obtain ⟨tid,pre,mid,post,k2,q1,q2,q3,q4,q5⟩:=gX hs.l9 hat
  obtain ⟨v,h',g1,⟨hk,rfl⟩,_⟩:=bY hs.env hx (by intro e;cases e)
  refine ⟨_,g1,fun w hb=>?_⟩
  obtain ⟨css,r1,r2,r3,r4⟩:=Im (ψ:=cellsOf w) hfl (show Rp W.φ (fB t1 n) y0 mid k2 from q3)
  have e2:l=kD t1 n y0:=e2
  have hlk:(l.take k).length=k:=by rw [List.length_take,e2,r4];omega
  refine ⟨[_],rfl,some ⟨W.aA j,o,none⟩,n,css.take k,by rw [hlk],by rw [hlk];exact hk,by rw [e2];exact r1.take k,fun _=>⟨_,rfl,fun j' v hv=>?_⟩,rfl⟩
  have hv:mid[j']? =some v:=by
   rw [tF css r3 k,r2] at hv
   have hlt:=(List.getElem?_eq_some_iff.1 hv).1
   rw [List.length_take] at hlt
   rwa [List.getElem?_take_of_lt (by omega)] at hv
  have hh:(blk (W.aA j) tid (W.hd j)).holds w:=hb.has (List.mem_append_right _ q4)
  have h9:=rT hh (j:=o+j') (v:=v) (by rw [q1, ← q2,List.append_assoc,List.getElem?_append_right (by omega),show pre.length+j' - pre.length=j' by omega,List.getElem?_append_left (by exact (List.getElem?_eq_some_iff.1 hv).1)];exact hv)
  show w.cell? ((⟨W.aA j,o,none⟩:Addr).add j')=some v
  rw [addr_add]
  exact h9
 ·rename_i a a' y'
  split at h
  case isFalse=>cases h
  case isTrue he=>
  injection h with h
  subst he h
  obtain ⟨cs,h1,h2,_⟩:=bD hs.env hx
  obtain ⟨ad,cs',rfl,h3,h4,_⟩:=h2
  exact ⟨_,h1,fun w hb=>⟨[.pointer (some ad)],rfl,rfl,ad,cs',rfl,h3.mono ⟨fun a v ha=>hb.get.2 a v ha,hb.get.2.blk⟩,h4.mono ⟨fun a v ha=>hb.get.2 a v ha,hb.get.2.blk⟩⟩⟩
 ·obtain ⟨cs,h2,h3⟩:=jo hs.env (by rw [hx];exact h) ht
  exact ⟨sv t cs,h2,fun w hb=>⟨cs,rfl,h3.mono ⟨fun a v ha=>hb.get.2 a v ha,hb.get.2.blk⟩⟩⟩
theorem Dm {W:d_} {e:Env} {eh oh:List Chunk} (hs:aZ S W e eh oh): ∀ (ps:List fq) (xs:List Operand) (z:ai (ps.map fq.ty)),xR S ps xs=some z→(∀ p∈ps,p.DN=true)→(∀ t,fq.val t∈ps→t.top=true)→ ∃ vs,OW e xs vs∧ ∀ w,Hb C w (eh++oh) (Inv G W.φ)→bP (cellsOf w) ps z vs [] []
 | [],[],z=>fun _ _ _=>⟨[], .nil,fun _ _=> .nil⟩
 | [p],[x],z=>fun h hf ht=>by
  have h:KD S p.ty x=some z:=h
  have h1:=hf p List.mem_cons_self
  cases p with
  | obj _ _ _=>cases h1
  | Bv _=>cases h1
  | val t=>
   have h1:t=t.er:=of_decide_eq_true h1
   obtain ⟨v,h2,h3⟩:=Ls (C:=C) (G:=G) hs h h1
   refine ⟨[v], .cons h2 .nil,fun w hb=>?_⟩
   obtain ⟨cs,rfl,h4⟩:=h3 w hb
   exact bP.val (r:=[]) (z:=z) (h:=[]) (hs:=[]) (ht t List.mem_cons_self) h4 (.nil)
 | p::b::q,x::xs,z=>fun h hf ht=>by
  have h:(match KD S p.ty x,xR S (b::q) xs with | some y,some z=>(some (y,z):Option (ai ((p::b::q).map fq.ty))) | _,_=>none)=some z:=h
  cases hy:KD S p.ty x with
  | none=>rw [hy] at h;cases h
  | some y=>
   cases hz:xR S (b::q) xs with
   | none=>rw [hy,hz] at h;cases h
   | some z'=>
    rw [hy,hz] at h
    injection h with h
    subst h
    have h1:=hf p List.mem_cons_self
    obtain ⟨vs,g1,g2⟩:=Dm hs (b::q) xs z' hz (fun p' hp'=>hf p' (List.mem_cons_of_mem _ hp')) (fun t ht'=>ht t (List.mem_cons_of_mem _ ht'))
    cases p with
    | obj _ _ _=>cases h1
    | Bv _=>cases h1
    | val t=>
     have h1:t=t.er:=of_decide_eq_true h1
     obtain ⟨v,h2,h3⟩:=Ls (C:=C) (G:=G) hs hy h1
     refine ⟨v::vs, .cons h2 g1,fun w hb=>?_⟩
     obtain ⟨cs,rfl,h4⟩:=h3 w hb
     exact bP.val (r:=b::q) (z:=(y,z')) (h:=[]) (hs:=[]) (ht t List.mem_cons_self) h4 (g2 w hb)
 | [],_::_,_=>fun h _ _=>by cases h
 | [_],[],_=>fun h _ _=>by cases h
 | [_],_::_::_,_=>fun h _ _=>by cases h
 | _::_::_,[],_=>fun h _ _=>by cases h
termination_by structural ps=>ps
theorem um: ∀ (l:List Ty) (z:ai l),(aI l z).map (·.1)=l
 | [],_=>rfl
 | [_],_=>rfl
 | a::b::q,z=>by
  show a::(aI (b::q) z.2).map (·.1)=_
  rw [um (b::q) z.2]
theorem Jn: ∀ {ps:List fq},(∀ p∈ps,p.DN=true)→outs ps=[]
 | [],_=>rfl
 | .val _::r,h=>Jn (ps:=r) fun p hp=>h p (List.mem_cons_of_mem _ hp)
 | .Bv _::_,h=>by have:=h _ List.mem_cons_self;cases this
 | .obj _ _ _ _ _::_,h=>by have:=h _ List.mem_cons_self;cases this
theorem Gs (hc:aO P G c) {cl:Call} {f:Nat} {en:Entry} {x:Operand} (hcl:cl.callee= .value x) (hx:S.get x= .fn f) (hf:look c.fn f=some en) (hp:en.plain=true) {z:ai (en.ps.map fq.ty)} (hz:xR S en.ps cl.args.toList=some z)
  {q:ai (en.rs++outs en.ps)} (hq:en.f z=some q):VB P N C G S (.call cl) (M4 ((aI (en.rs++outs en.ps) q).take en.rs.length)):=by
 intro W e eh oh hs
 have he:=hc.fn f en hf
 unfold Entry.plain at hp
 simp only [Bool.and_eq_true,List.all_eq_true] at hp
 obtain ⟨vs,g1,g2⟩:=Dm (C:=C) (G:=G) hs _ _ _ hz hp.1 he.top
 have hpl: ∀ d∈(aI (en.rs++outs en.ps) q).take en.rs.length,d.1.plain=true:=fun d hd=>by
  refine hp.2 d.1 ?_
  have h1:((aI (en.rs++outs en.ps) q).take en.rs.length).map (·.1)=en.rs:=by
   rw [List.map_take,um,List.take_left]
  rw [← h1]
  exact List.mem_map.2 ⟨d,hd,rfl⟩
 refine ⟨FT (((aI (en.rs++outs en.ps) q).take en.rs.length).map F6),DR.res ⟨_,Hr hpl,rfl⟩,?_⟩
 intro dst ty pos af gd a w hfr hb
 have h0:(execOp a.eval ⟨dst, .call cl,ty,pos,af,gd⟩).run P w= .ok (.enter f vs.toArray) w:=by
  have:=zK (P:=P) (w:=w) (d:=dst) (ty:=ty) (pos:=pos) (af:=af) (gd:=gd) (ats:=cl.argTypes) he.go (a:=a) (fo:=x) (hfr.ev (Gy hs.env hx)) (hfr.TV g1)
  rw [← this]
  congr 4
  cases cl with
  | mk callee args ats=>simp only at hcl;subst hcl;simp
 rw [h0]
 have hbl:Hb ⟨w,[],fun _=>none⟩ w [] (Inv G (cellsOf w)):=by
  refine ⟨⟨rfl,rfl,rfl,Nat.le_refl _,fun _ _ _=>rfl,fun c hc=>absurd hc (by simp),fun c hc=>absurd hc (by simp),fun c hc=>absurd hc (by simp),fun c hc=>absurd hc (by simp),List.Pairwise.nil,fun k m h=>by cases h⟩,fun w2 x2=>⟨(hb.box w2 ?_).1,fun a v ha=>?_,fun g hg=>?_⟩⟩
  ·have hbk: ∀ k,k<w.heap.size→w2.heap[k]? =w.heap[k]? :=fun k hk=>x2.block k hk rfl (fun _ hc=>absurd hc (by simp))
   exact ⟨x2.os,x2.tape,x2.output,x2.size,fun k hk _ _=>hbk k hk,fun k _ hk _ _=>Same.of_block (hbk k hk),fun _ _ k _ hk=>Same.of_block (hbk k hk)⟩
  ·have hk:a.block<w.heap.size:=by
    have ha:w.cell? a=some v:=ha
    cases hg:w.heap[a.block]? with
    | none=>simp [World.cell?,hg] at ha
    | some o=>exact (Array.getElem?_eq_some_iff.1 hg).1
   exact (World.cell?_of_block (x2.block _ hk rfl (fun _ hc=>absurd hc (by simp)))).trans ha
  ·obtain ⟨cs,t,hg⟩:=hg
   exact ⟨cs,t,(x2.block _ (Array.getElem?_eq_some_iff.1 hg).1 rfl (fun _ hc=>absurd hc (by simp))).trans hg⟩
 refine (he.ok z q hq ⟨w,[],fun _=>none⟩ (cellsOf w) vs [] [] (g2 w hb) hbl).mono fun y w' hy=>?_
 obtain ⟨v,φ',h1,h2,rfl,hle,hb1,⟨us,t1,rfl⟩,_⟩:=hy
 obtain ⟨e1,_,_⟩:=MS t1 hpl
 refine ⟨by rw [e1],hb.grow ?_⟩
 have hbk: ∀ k,k<w.heap.size→w'.heap[k]? =w.heap[k]? :=fun k hk=>hb1.hp.keep k hk (fun _ hc=>absurd hc (by simp))
 exact ⟨hb1.hp.os,hb1.hp.tape,hb1.hp.output,hb1.hp.size,fun k hk _ _=>hbk k hk,fun k _ hk _ _=>Same.of_block (hbk k hk),fun c hc=>absurd hc (by simp)⟩
theorem Ms (hc:aO P G c) {cl:Call} {f:Nat} {i:Ip} {x0:Operand} (hcl:cl.callee= .value x0) (hx:S.get x0= .fn f) (hf:look c.ip f=some i) (h:UG S i cl.args.toList kk=some r): ∃ d,kk d=some r∧VB P N C G S (.call cl) d:=by
 have he:=hc.ip f i hf
 unfold UG at h
 split at h
 case h_2=>cases h
 case h_1 x hargs=>
 split at h
 case h_2=>cases h
 case h_1 j p0 o' hxr=>
 split at h
 case h_2=>cases h
 case h_1 ob hob=>
 split at h
 case isFalse=>cases h
 case isTrue htid=>
 cases hb:Nat.beq o' (aH i.t i.p0) with
 | false=>rw [hb] at h;cases h
 | true=>
 rw [hb] at h
 simp only [cond_true] at h
 have ho:=Nat.eq_of_beq_eq_true hb
 subst ho
 split at h
 case isFalse=>cases h
 case isTrue hty=>
 obtain ⟨m,hm,h⟩:=Option.bind_eq_some_iff.1 h
 refine ⟨_,h,fun W e eh oh hs=>⟨_,⟨rfl,rfl⟩,?_⟩⟩
 intro dst ty pos af gd a w hfr hb2
 obtain ⟨h1,r1,⟨h0,q1,q2⟩,q3⟩:=hs.l9.look hob
 rw [htid] at q2
 have q4:=zN hty q1
 have hn:=(jK he.flat q4).2
 subst hn
 have g1:OW e cl.args.toList [Value.pointer (some ⟨W.aA j,aH i.t i.p0,none⟩)]:=by rw [hargs];exact .cons (bI hs.env hxr) .nil
 have hrun:(execOp a.eval ⟨dst, .call cl,ty,pos,af,gd⟩).run P w= .ok (.enter f [Value.pointer (some ⟨W.aA j,aH i.t i.p0,none⟩)].toArray) w:=by
  have:=zK (P:=P) (w:=w) (d:=dst) (ty:=ty) (pos:=pos) (af:=af) (gd:=gd) (ats:=cl.argTypes) he.go (a:=a) (fo:=x0) (hfr.ev (Gy hs.env hx)) (hfr.TV g1)
  rw [← this]
  congr 4
  cases cl with
  | mk callee args ats=>simp only at hcl;subst hcl;simp
 rw [hrun]
 have hpm:(eh++oh).Perm ([blk (W.aA j) i.tid (W.hd j)]++(eh++r1)):=by
  refine (q3.append_left eh).trans ?_
  rw [q2]
  exact List.perm_append_comm_assoc _ _ _
 have hb3:Hb C w ([blk (W.aA j) i.tid (W.hd j)]++(eh++r1)) (Inv G W.φ):=hb2.perm hpm
 refine (he.ok _ m hm (C.sub w [blk (W.aA j) i.tid (W.hd j)] (eh++r1)) W.φ (W.aA j) _ q4 hb3.pass).mono fun y w' hy=>?_
 obtain ⟨rfl,hb4⟩:=hy
 exact ⟨rfl,((hb3.back hb4).perm hpm.symm).imp fun _ h=>h.1⟩
end
end Go.Lf
/-
  Structs compared, field by field.
-/
namespace Go.Lf
open Go Go.iM Go.RowKit
theorem Lv {P:Program} {t:TypeId} {k:IntKind} (h:yG P t k=true):P.underlying t=some (.int k):=by
 unfold yG at h
 split at h
 ·rename_i k' hu
  rw [hu]
  have:=of_decide_eq_true h
  rw [this]
 ·cases h
theorem qj: ∀ {t:Ty} {a:t.den},t.flat=true→(aL t a).length=t.size
 | .int _,_,_=>rfl
 | .bool,_,_=>rfl
 | .str,_,_=>rfl
 | .unit,_,_=>rfl
 | .st t,a,h=>qj (t:=t) (a:=a) h
 | .pr x y,a,h=>by
  have h:(x.flat && y.flat)=true:=h
  rw [Bool.and_eq_true] at h
  show (aL x a.1++aL y a.2).length=_
  rw [List.length_append,qj h.1,qj h.2];rfl
theorem NB {P:Program} {t:TypeId} {ds:TypeDesc} {xs:Array Value} {off:Nat} {v:Value} (hu:P.underlying t=some ds) (hn:(∀ fs,ds≠ .struct fs)∧ ∀ n e,ds≠ .array n e) (hx:xs[off]? =some v) (w:World):(part t xs off).run P w= .ok v w:=by
 cases ds<;>simp [part,isAgg,run_underlying hu,hx] at hn ⊢
theorem KV {P:Program} {t:Ty} {id:TypeId} (h:UF P t id=true) (hf:t.flat=true) {a:t.den} {pre post:List Value} (w:World):(part id (pre++aL t a++post).toArray pre.length).run P w= .ok (sv t (aL t a)) w:=by
 have sc: ∀ (v:Value),aL t a=[v]→sv t [v]=v→ ∀ ds,P.underlying id=some ds→((∀ fs,ds≠ .struct fs)∧ ∀ n e,ds≠ .array n e)→(part id (pre++aL t a++post).toArray pre.length).run P w= .ok (sv t (aL t a)) w:=by
  intro v h1 h2 ds hu hn
  rw [h1,h2]
  exact NB hu hn (by simp) w
 cases t with
 | int k=>exact sc _ rfl rfl _ (Lv h) ⟨fun _ h=>(by cases h),fun _ _ h=>(by cases h)⟩
 | bool=>
  have h:NJ P id=true:=h
  unfold NJ at h
  split at h
  ·rename_i hu;exact sc _ rfl rfl _ hu ⟨fun _ h=>(by cases h),fun _ _ h=>(by cases h)⟩
  ·cases h
 | str=>exact sc _ rfl rfl _ (jP h) ⟨fun _ h=>(by cases h),fun _ _ h=>(by cases h)⟩
 | st t=>
  simp only [UF,Bool.and_eq_true] at h
  obtain ⟨h1,i,h2,h3⟩:=zw h.1.1
  have hl:(aL (.st t) a).length=t.size:=qj (t:= .st t) hf
  have e1:(pre++aL (.st t) a++post).toArray.extract pre.length (pre.length+t.size)=(aL (.st t) a).toArray:=by
   rw [← hl]
   apply Array.toList_inj.1
   simp
  simp [part,h1,bG (P:=P) (t:=id) (n:=t.size) (by unfold Bw;rw [h2];simp [h3])]
  simpa [sv] using e1
 | _=>cases h
mutual
theorem Qm {P:Program}: ∀ (t:Ty) (id:TypeId),UF P t id=true→t.flat=true→ ∀ (a b:t.den) (d:Nat),t.dp≤d→ ∀ w,(Op.equalIn (d+1) id (sv t (aL t a)) (sv t (aL t b))).run P w= .ok (LD t a b) w
 | .int k,id,h,_,a,b,d,_,w=>run_equalIn_int w d id k k a b (Lv h)
 | .bool,id,h,_,a,b,d,_,w=>by
  have h:NJ P id=true:=h
  unfold NJ at h
  split at h
  ·rename_i hu;exact run_equalIn_bool' w d id a b hu
  ·cases h
 | .str,id,h,_,a,b,d,_,w=>by
  show (Op.equalIn (d+1) id (Value.string ⟨List.toArray a⟩) (Value.string ⟨List.toArray b⟩)).run P w= .ok (decide ((a:List UInt8)=b)) w
  rw [run_equalIn_string w d id _ _ (jP h)]
  congr 1
  rw [ByteArray.toList_eq,ByteArray.toList_eq]
  by_cases hab:(a:List UInt8)=b<;>simp [hab]
 | .st t,id,h,hf,a,b,d,hd,w=>by
  cases d with
  | zero=>exact absurd hd (by simp [Ty.dp])
  | succ d=>
  have hd:t.dp≤d:=Nat.le_of_succ_le_succ hd
  simp only [UF,Bool.and_eq_true] at h
  obtain ⟨⟨_,h2⟩,h3⟩:=h
  have h2:P.stoodInHeld id=false:=by simpa using h2
  split at h3
  case h_2=>cases h3
  case h_1 fs hu=>
  have hfo:P.fieldsOf id=fs:=by unfold Program.fieldsOf;rw [hu]
  show (Op.equalIn (d+1+1) id (.agg (aL t a).toArray) (.agg (aL t b).toArray)).run P w=_
  rw [run_equalIn_struct w (d+1) id _ _ (by rw [hfo];exact hu) h2,hfo]
  have:=L6 t 0 fs.toList h3 hf a b [] [] [] [] rfl rfl d hd w
  simpa [LD] using this
 | .unit,_,h,_,_,_,_,_,_=>by cases h
 | .it,_,h,_,_,_,_,_,_=>by cases h
 | .xX,_,h,_,_,_,_,_,_=>by cases h
 | .dead _ _,_,h,_,_,_,_,_,_=>by cases h
 | .sl _,_,h,_,_,_,_,_,_=>by cases h
 | .rw _ _,_,h,_,_,_,_,_,_=>by cases h
 | .mr _ _,_,h,_,_,_,_,_,_=>by cases h
 | .ptr _,_,h,_,_,_,_,_,_=>by cases h
 | .eb _ _,_,h,_,_,_,_,_,_=>by cases h
 | .on _,_,h,_,_,_,_,_,_=>by cases h
 | .fl _,_,h,_,_,_,_,_,_=>by cases h
 | .op _,_,h,_,_,_,_,_,_=>by cases h
 | .bx _ _,_,h,_,_,_,_,_,_=>by cases h
 | .bo _ _,_,h,_,_,_,_,_,_=>by cases h
 | .bn,_,h,_,_,_,_,_,_=>by cases h
 | .tr,_,h,_,_,_,_,_,_=>by cases h
 | .ml _ _ _,_,h,_,_,_,_,_,_=>by cases h
 | .pr _ _,_,h,_,_,_,_,_,_=>by cases h
theorem L6 {P:Program}: ∀ (t:Ty) (off:Nat) (fs:List Field),Q5 P t off fs=true→t.flat=true→ ∀ (a b:t.den) (pre pre' post post':List Value),pre.length=off→pre'.length=off→ ∀ (d:Nat),t.dp≤d→ ∀ w,
  (Op.eqFields (d+1) (pre++aL t a++post).toArray (pre'++aL t b++post').toArray fs).run P w= .ok (LD t a b) w
 | .unit,_,[],_,_,_,_,_,_,_,_,_,_,_,_,_=>by simp [Op.eqFields,LD]
 | .unit,_,_::_,h,_,_,_,_,_,_,_,_,_,_,_,_=>by cases h
 | .pr _ _,_,[],h,_,_,_,_,_,_,_,_,_,_,_,_=>by cases h
 | .pr x y,off,f::fs,h,hf,a,b,pre,pre',post,post',hp,hp',d,hd,w=>by
  simp only [Q5,Bool.and_eq_true] at h
  obtain ⟨⟨⟨h1,h2⟩,h3⟩,h4⟩:=h
  have hf:(x.flat && y.flat)=true:=hf
  rw [Bool.and_eq_true] at hf
  have h2:=Nat.eq_of_beq_eq_true h2
  have hn:f.name≠ "_" :=by simpa using h1
  have hdx:x.dp≤d:=Nat.le_trans (Nat.le_max_left _ _) hd
  have hdy:y.dp≤d:=Nat.le_trans (Nat.le_max_right _ _) hd
  have e1:(part f.type (pre++aL (.pr x y) a++post).toArray f.offset).run P w= .ok (sv x (aL x a.1)) w:=by
   rw [h2, ← hp,show pre++aL (.pr x y) a++post=pre++aL x a.1++(aL y a.2++post) by show pre++(aL x a.1++aL y a.2)++post=_;simp]
   exact KV h3 hf.1 w
  have e2:(part f.type (pre'++aL (.pr x y) b++post').toArray f.offset).run P w= .ok (sv x (aL x b.1)) w:=by
   rw [h2, ← hp',show pre'++aL (.pr x y) b++post'=pre'++aL x b.1++(aL y b.2++post') by show pre'++(aL x b.1++aL y b.2)++post'=_;simp]
   exact KV h3 hf.1 w
  have e3:=Qm x f.type h3 hf.1 a.1 b.1 d hdx w
  simp only [Op.eqFields,if_pos hn,Sem.run_bind,e1,e2,Result.andThen_ok,e3]
  cases hz:LD x a.1 b.1 with
  | false=>simp [LD,hz]
  | true=>
   simp only [Bool.not_true,Bool.false_eq_true,if_false]
   have:=L6 y (off+x.size) fs h4 hf.2 a.2 b.2 (pre++aL x a.1) (pre'++aL x b.1) post post' (by rw [List.length_append,hp,qj hf.1]) (by rw [List.length_append,hp',qj hf.1]) d hdy w
   rw [show pre++aL (.pr x y) a++post=pre++aL x a.1++aL y a.2++post by show pre++(aL x a.1++aL y a.2)++post=_;simp,show pre'++aL (.pr x y) b++post'=pre'++aL x b.1++aL y b.2++post' by show pre'++(aL x b.1++aL y b.2)++post'=_;simp,this]
   simp [LD,hz]
 | .int _,_,_,h,_,_,_,_,_,_,_,_,_,_,_,_=>by cases h
 | .bool,_,_,h,_,_,_,_,_,_,_,_,_,_,_,_=>by cases h
 | .str,_,_,h,_,_,_,_,_,_,_,_,_,_,_,_=>by cases h
 | .it,_,_,h,_,_,_,_,_,_,_,_,_,_,_,_=>by cases h
 | .xX,_,_,h,_,_,_,_,_,_,_,_,_,_,_,_=>by cases h
 | .dead _ _,_,_,h,_,_,_,_,_,_,_,_,_,_,_,_=>by cases h
 | .sl _,_,_,h,_,_,_,_,_,_,_,_,_,_,_,_=>by cases h
 | .rw _ _,_,_,h,_,_,_,_,_,_,_,_,_,_,_,_=>by cases h
 | .mr _ _,_,_,h,_,_,_,_,_,_,_,_,_,_,_,_=>by cases h
 | .ptr _,_,_,h,_,_,_,_,_,_,_,_,_,_,_,_=>by cases h
 | .eb _ _,_,_,h,_,_,_,_,_,_,_,_,_,_,_,_=>by cases h
 | .on _,_,_,h,_,_,_,_,_,_,_,_,_,_,_,_=>by cases h
 | .fl _,_,_,h,_,_,_,_,_,_,_,_,_,_,_,_=>by cases h
 | .op _,_,_,h,_,_,_,_,_,_,_,_,_,_,_,_=>by cases h
 | .bx _ _,_,_,h,_,_,_,_,_,_,_,_,_,_,_,_=>by cases h
 | .bo _ _,_,_,h,_,_,_,_,_,_,_,_,_,_,_,_=>by cases h
 | .bn,_,_,h,_,_,_,_,_,_,_,_,_,_,_,_=>by cases h
 | .tr,_,_,h,_,_,_,_,_,_,_,_,_,_,_,_=>by cases h
 | .ml _ _ _,_,_,h,_,_,_,_,_,_,_,_,_,_,_,_=>by cases h
 | .st _,_,_,h,_,_,_,_,_,_,_,_,_,_,_,_=>by cases h
end
section
variable {P:Program} {N:Nat} {C:Cx} {e:Env} {hs:List Chunk} {I:World→Prop}
variable {d:Option Tmp} {ty:TypeId} {pos:String} {af:Array Edge} {gd:Option (Nat×Bool)}
theorem R.ZQ {x y:Operand} {tx tyy:TypeId} {t:Ty} {a b:t.den} (h:CW P tx t=true) (hx:EV e x (.agg (aL t a).toArray)) (hy:EV e y (.agg (aL t b).toArray)):
  gP P N C e hs I ⟨d, .binOp .eql tx x y tyy,ty,pos,af,gd⟩ (.bool (LD t a b))∧gP P N C e hs I ⟨d, .binOp .neq tx x y tyy,ty,pos,af,gd⟩ (.bool (!LD t a b)):=by
 simp only [CW,Bool.and_eq_true] at h
 obtain ⟨⟨⟨h1,h2⟩,h3⟩,h4⟩:=h
 have h2:P.eqGuardType P.depth tx=false:=by simpa using h2
 have h3:t.dp≤9000:=Nat.le_of_ble_eq_true h3
 have h5: ∀ w,(Op.equalIn 10000 tx (.agg (aL t a).toArray) (.agg (aL t b).toArray)).run P w= .ok (LD t a b) w:=fun w=>Qm (.st t) tx h1 h4 a b 9999 (by show t.dp+1≤9999;omega) w
 constructor
 ·intro A w hf _
  have h6:=run_eqGuard_agg (P:=P) w .eql tx x y (aL t a).toArray (aL t b).toArray h2
  simp only [execOp,hf.ev hx,hf.ev hy]
  simp [h6,run_eql_struct,h5 w,Result.andThen]
 ·intro A w hf _
  have h6:=run_eqGuard_agg (P:=P) w .neq tx x y (aL t a).toArray (aL t b).toArray h2
  simp only [execOp,hf.ev hx,hf.ev hy]
  simp [h6,run_neq_struct,h5 w,Result.andThen]
end
end Go.Lf
/-
  Errors as trees: a struct said as an error, an error said as a struct; which types have an interface's methods.
-/
namespace Go.Lf
open Go Go.iM Go.RowKit
theorem R8 {φ:bL}: ∀ (t:Ty) (x:t.den) (c:List Ec) (cells:List Value),zb t x=some c→Rp φ t x cells []→bz Fh c cells:=by
 intro t
 induction t with
 | int k=>
  intro x c cells h r
  simp only [zb,Option.some.injEq] at h
  subst h
  rw [r.1]
  exact bz.one rfl
 | bool=>
  intro x c cells h r
  simp only [zb,Option.some.injEq] at h
  subst h
  rw [r.1]
  exact bz.one rfl
 | str=>
  intro x c cells h r
  simp only [zb,Option.some.injEq] at h
  subst h
  rw [r.1]
  exact bz.one rfl
 | unit=>
  intro x c cells h r
  simp only [zb,Option.some.injEq] at h
  subst h
  rw [r.1]
  exact .nil
 | sl t _=>
  intro x c cells h r
  obtain ⟨A,c0,css,rfl,_⟩:=r
  simp only [zb] at h
  split at h
  ·simp only [Option.some.injEq] at h
   subst h
   exact bz.one ⟨A,c0,rfl⟩
  ·cases h
 | st t ih=>
  intro x c cells h r
  exact ih x c cells (by simpa only [zb] using h) r
 | pr a b iha ihb=>
  intro x c cells h r
  obtain ⟨c1,c2,h1,h2,rfl,e2,r1,r2⟩:=r
  obtain ⟨rfl,rfl⟩:=List.append_eq_nil_iff.1 e2.symm
  simp only [zb] at h
  split at h
  ·rename_i y z hy hz
   simp only [Option.some.injEq] at h
   subst h
   exact (iha _ _ _ hy r1).append (ihb _ _ _ hz r2)
  ·cases h
 | _=>intro x c cells h;simp [zb] at h
theorem TU {φ:bL} {l:List Er} {css:List (List Value)} (h:bz (fun (x:Ty.tr.den) cs=>Rp φ .tr x cs []) l css):GJ φ l css.flatten:=by
 induction h with
 | nil=>rfl
 | cons h1 _ ih=>
  obtain ⟨⟨v,rfl,hv⟩,_⟩:=h1
  exact ⟨v,_,rfl,hv,ih⟩
theorem QC {φ:bL}: ∀ {l:List Er} {us:List Value},GJ φ l us→bz (fun (x:Ty.tr.den) cs=>Rp φ .tr x cs []) l (us.map fun u=>[u])∧(us.map fun u=>[u]).flatten=us
 | [],us,h=>by
  have h:us=[]:=h
  subst h
  exact ⟨.nil,rfl⟩
 | e::l,us,h=>by
  obtain ⟨u,r,rfl,h1,h2⟩:=h
  have ih:=QC h2
  exact ⟨.cons ⟨⟨u,rfl,h1⟩,rfl⟩ ih.1,by rw [List.map_cons,List.flatten_cons,ih.2];rfl⟩
theorem KU {φ:bL} {tid:Nat} {bx:Bool}: ∀ (t:Ty) (cs:List Ec) (us:List Value) (x:t.den) (e:Er) (cells:List Value),bz Fh cs us→Dr tid bx cs t x=some e→Rp φ t x cells []→ ∀ p,PY φ bx p (us++cells)→JF φ e (.iface tid p):=by
 intro t
 induction t with
 | unit=>
  intro cs us x e cells hc h r p hp
  simp only [Dr,Option.some.injEq] at h
  subst h
  obtain ⟨rfl,_⟩:=r
  exact ⟨p,us,[],rfl,hc,rfl,hp⟩
 | st t ih=>
  intro cs us x e cells hc h r
  exact ih cs us x e cells hc (by simpa only [Dr] using h) r
 | pr a b _ ihb=>
  intro cs us x e cells hc h r p hp
  obtain ⟨c1,c2,h1,h2,rfl,e2,r1,r2⟩:=r
  obtain ⟨rfl,rfl⟩:=List.append_eq_nil_iff.1 e2.symm
  have key:(match zb a x.1 with | some c=>Dr tid bx (cs++c) b x.2 | none=>none)=some e→JF φ e (.iface tid p):=fun h=>by
   split at h
   ·rename_i c hc1
    have h3:=R8 a _ _ _ hc1 r1
    exact ihb _ (us++c1) _ _ _ (hc.append h3) h r2 p (by rw [List.append_assoc];exact hp)
   ·cases h
  have one: ∀ (x:Er) (r1:Rp φ .tr x c1 []),c2=[]→e= .nd tid bx cs (.one x)→JF φ e (.iface tid p):=fun x r1 h2 he=>by
   subst h2 he
   obtain ⟨⟨v,rfl,hv⟩,_⟩:=r1
   exact ⟨p,us,[v],rfl,hc,⟨v,rfl,hv⟩,by simpa using hp⟩
  have many: ∀ (x:List Er) (r1:Rp φ (.sl .tr) x c1 []),c2=[]→e= .nd tid bx cs (.many x)→JF φ e (.iface tid p):=fun x r1 h2 he=>by
   subst h2 he
   obtain ⟨A,c,css,rfl,hle,hall,hrd,_⟩:=r1
   exact ⟨p,us,_,rfl,hc,⟨A,c,css.flatten,rfl,TU hall,hle,hrd⟩,by simpa using hp⟩
  cases a with
  | tr=>
   cases b with
   | unit=>
    simp only [Dr,Option.some.injEq] at h
    exact one x.1 r1 r2.1 h.symm
   | _=>exact key h
  | sl t=>
   cases t with
   | tr=>
    cases b with
    | unit=>
     simp only [Dr,Option.some.injEq] at h
     exact many x.1 r1 r2.1 h.symm
    | _=>exact key h
   | _=>exact key h
  | _=>exact key h
 | _=>intro cs us x e cells _ h;simp [Dr] at h
theorem Q9 {φ:bL}: ∀ (t:Ty) (cs:List Ec) (x:t.den) (us:List Value),Aw t cs=some x→bz Fh cs us→Rp φ t x us []:=by
 intro t
 induction t with
 | int k=>
  intro cs x us h hc
  simp only [Aw] at h
  split at h
  ·rename_i k' n
   split at h
   ·rename_i e
    subst e
    simp only [Option.some.injEq] at h
    subst h
    cases hc with
    | cons h1 h2=>cases h2;rw [show _=_ from h1];exact ⟨rfl,rfl⟩
   ·cases h
  ·cases h
 | bool=>
  intro cs x us h hc
  simp only [Aw] at h
  split at h
  ·simp only [Option.some.injEq] at h
   subst h
   cases hc with
   | cons h1 h2=>cases h2;rw [show _=_ from h1];exact ⟨rfl,rfl⟩
  ·cases h
 | str=>
  intro cs x us h hc
  simp only [Aw] at h
  split at h
  ·simp only [Option.some.injEq] at h
   subst h
   cases hc with
   | cons h1 h2=>cases h2;rw [show _=_ from h1];exact ⟨rfl,rfl⟩
  ·cases h
 | unit=>
  intro cs x us h hc
  simp only [Aw] at h
  split at h
  ·cases hc
   exact ⟨rfl,rfl⟩
  ·cases h
 | sl t _=>
  intro cs x us h hc
  simp only [Aw] at h
  split at h
  ·simp only [Option.some.injEq] at h
   subst h
   cases hc with
   | cons h1 h2=>
    cases h2
    obtain ⟨A,c,rfl⟩:=h1
    exact ⟨A,c,[],rfl,Nat.zero_le _, .nil,fun h=>absurd h (by simp),rfl⟩
  ·cases h
 | st t ih=>intro cs x us h hc;exact ih cs x us (by simpa only [Aw] using h) hc
 | pr a b iha ihb=>
  intro cs x us h hc
  simp only [Aw] at h
  split at h
  ·rename_i y z hy hz
   simp only [Option.some.injEq] at h
   subst h
   exact ⟨us.take a.size,us.drop a.size,[],[],(List.take_append_drop _ _).symm,rfl,iha _ _ _ hy (hc.take _),ihb _ _ _ hz (hc.drop _)⟩
  ·cases h
 | _=>intro cs x us h;simp [Aw] at h
theorem P9 {φ:bL} {a b:Ty} {cs:List Ec} {k:Tl} {x:a.den×b.den} {us ws:List Value} (h:Bj a b cs k=some x) (hc:bz Fh cs us) (hk:Uo φ k ws):Rp φ (.pr a b) x (us++ws) []:=by
 cases a with
 | tr=>
  cases b with
  | unit=>
   simp only [Bj] at h
   split at h
   ·simp only [Option.some.injEq] at h
    subst h
    cases hc
    obtain ⟨u,rfl,hu⟩:=hk
    exact ⟨[u],[],[],[],rfl,rfl,⟨⟨u,rfl,hu⟩,rfl⟩,⟨rfl,rfl⟩⟩
   ·cases h
  | _=>simp [Bj] at h
 | sl t=>
  cases t with
  | tr=>
   cases b with
   | unit=>
    simp only [Bj] at h
    split at h
    ·rename_i l0
     simp only [Option.some.injEq] at h
     subst h
     cases hc
     obtain ⟨A,c,vs,rfl,h2,h3,h4⟩:=hk
     obtain ⟨g1,g2⟩:=QC h2
     exact ⟨[.slice A l0.length c],[],[],[],rfl,rfl,⟨A,c,_,rfl,h3,g1,by rw [g2];exact h4,rfl⟩,⟨rfl,rfl⟩⟩
    ·cases h
   | _=>simp [Bj] at h
  | _=>simp [Bj] at h
 | _=>simp [Bj] at h
theorem RQ {φ:bL}: ∀ (t:Ty) (cs:List Ec) (k:Tl) (x:t.den) (us ws:List Value),I9 t cs k=some x→bz Fh cs us→Uo φ k ws→Rp φ t x (us++ws) []:=by
 intro t
 induction t with
 | unit=>
  intro cs k x us ws h hc hk
  simp only [I9] at h
  split at h
  ·cases hc
   have hk:ws=[]:=hk
   subst hk
   exact ⟨rfl,rfl⟩
  ·cases h
 | st t ih=>intro cs k x us ws h hc hk;exact ih cs k x us ws (by simpa only [I9] using h) hc hk
 | pr a b _ ihb=>
  intro cs k x us ws h hc hk
  simp only [I9] at h
  split at h
  ·rename_i y hy
   have h:some y=some x:=h
   injection h with h
   subst h
   exact P9 hy hc hk
  ·split at h
   ·rename_i y z hy hz
    simp only [Option.some.injEq] at h
    subst h
    exact ⟨us.take a.size,us.drop a.size++ws,[],[],by rw [← List.append_assoc,List.take_append_drop],rfl,Q9 a _ _ _ hy (hc.take _),ihb _ _ _ _ _ hz (hc.drop _) hk⟩
   ·cases h
 | _=>intro cs k x us ws h;simp [I9] at h
theorem T_ {φ:bL} {a:Nat} {t:Ty} {e:Er} {y:Option t.den} {v:Value} (h:XD a t e=some y) (hv:JF φ e v):
  (y=none∧(v= .nilIface∨ ∃ i p,v= .iface i p∧i≠a))∨ ∃ z ad cs,y=some z∧v= .iface a (.pointer (some ad))∧Rp φ t z cs []∧kE φ ad cs:=by
 cases e with
 | nil=>
  unfold XD at h
  simp only [Option.some.injEq] at h
  exact .inl ⟨h.symm, .inl hv⟩
 | nd i bx cs k=>
  obtain ⟨p,us,ws,rfl,h2,h3,h4⟩:=hv
  unfold XD at h
  simp only at h
  cases hb:Nat.beq i a with
  | false=>
   rw [hb] at h
   simp only [cond_false,Option.some.injEq] at h
   refine .inl ⟨h.symm, .inr ⟨i,p,rfl,fun e=>?_⟩⟩
   subst e
   rw [Nat.beq_refl] at hb
   cases hb
  | true=>
   rw [hb] at h
   have:=Nat.eq_of_beq_eq_true hb
   subst this
   cases bx with
   | true=>simp at h
   | false=>
    simp only [cond_true,cond_false] at h
    split at h
    ·rename_i z hz
     simp only [Option.some.injEq] at h
     obtain ⟨ad,rfl,h6,_⟩:=h4
     exact .inr ⟨z,ad,_,h.symm,rfl,RQ t _ _ _ _ _ hz h2 h3,h6⟩
    ·cases h
theorem Gn {α:Type}: ∀ {l:List (Nat×α)} {k:Nat} {v:α},look l k=some v→(k,v)∈l
 | [],_,_,h=>by cases h
 | (a,x)::r,k,v,h=>by
  unfold look at h
  cases hb:Nat.beq a k with
  | true=>
   rw [hb] at h
   simp only [cond_true,Option.some.injEq] at h
   rw [Nat.eq_of_beq_eq_true hb,h]
   exact List.mem_cons_self
  | false=>
   rw [hb] at h
   exact List.mem_cons_of_mem _ (Gn h)
def X_ (P:Program) (a:Nat) (l:List (Nat×Bool)):Bool:=match P.underlying a,(P.info? a).map (·.zero) with
 | some (.interface want),some (some Value.nilIface)=>l.all fun p=>match P.info? p.1 with
  | some i=>bif p.2 then (lacking want i.methods).isEmpty else !(lacking want i.methods).isEmpty
  | none=>false
 | _,_=>false
theorem Uy {P:Program} {a:Nat} {l:List (Nat×Bool)} (h:X_ P a l=true):Q7 P a l:=by
 intro t b hl v xT w
 unfold X_ at h
 split at h
 case h_2=>cases h
 case h_1 want hu hz=>
 have h1:=List.all_eq_true.1 h (t,b) (Gn hl)
 simp only at h1
 split at h1
 ·rename_i i hi
  cases b with
  | true=>
   rw [if_pos rfl]
   exact run_typeAssert_hasB hu (by rw [hi];simpa using h1) v xT w
  | false=>
   rw [if_neg (by decide)]
   exact run_typeAssert_lacksB hu (by rw [hi];simpa using h1) hz v xT w
 ·cases h1
def YW (P:Program) (l:List (Nat×List (Nat×Bool))):Bool:=l.all fun p=>X_ P p.1 p.2
theorem Ri {P:Program} {l:List (Nat×List (Nat×Bool))} (h:YW P l=true): ∀ a m,look l a=some m→Q7 P a m:=fun a m hl=>Uy (List.all_eq_true.1 h (a,m) (Gn hl))
section
variable {P:Program} {N:Nat} {C:Cx} {I:World→Prop} {e:Env} {hs:List Chunk} {d:Option Tmp} {ty:TypeId} {pos:String} {af:Array Edge} {gd:Option (Nat×Bool)}
theorem R.X7 {x:Operand} {xt u t:TypeId} {v r:Value} (hx:EV e x (.iface t v)) (h: ∀ w,(Instr.typeAssert (.iface t v) xt u true).run P w= .ok r w):gP P N C e hs I ⟨d, .typeAssert x xt u true,ty,pos,af,gd⟩ r:=fun A w hf _=>by
 simp [execOp,hf.ev hx,h]
end
end Go.Lf
/-
  Operations that leave all but their slot as it is: all of them.
-/
namespace Go.Lf
open Go Go.iM
section
variable {P:Program} {N:Nat} {C:Cx} {G:World→Prop} {c:Ctx} {S:St} {Rt:Type} {kk:D→Option Rt} {r:Rt}
variable (hc:aO P G c)
include hc
theorem F_ {s:Nat} {x:Operand} {f:Nat} (h:fF c (.fieldAddr s x f) S kk=some r): ∃ d,kk d=some r∧Cn P N C G S (.fieldAddr s x f) d:=by
 have hT:=hc.ty
 simp only [fF] at h
 split at h<;>first | cases h | skip
 rename_i t el hl
 have ho:=(hT _ _ hl)
 cases hn:Nat.blt f (nf t) with
 | false=>rw [hn] at h;cases h
 | true=>
  rw [hn] at h
  simp only [cond_true] at h
  have hlt:f<nf t:=by simpa [Nat.blt_eq] using hn
  have hfo:Lt P s f (aH (.st t) (.i::aD t f))=true:=(ho.ag t rfl rfl).1 f hlt
  generalize hx:S.get x=dx at h
  split at h
  ·refine ⟨_,h,fun W e eh oh hs=>⟨_,⟨rfl,rfl⟩,fun dst ty pos af gd=>?_⟩⟩
   exact R.Zv hfo (bI hs.env hx) rfl
  ·rename_i t' y
   split at h
   ·rename_i he
    split at h
    ·rename_i s' z hg
     refine ⟨_,h,fun W e eh oh hs=>?_⟩
     obtain ⟨v,h',h1,ad,cs,rfl,q1,q2,_⟩:=bY hs.env hx (by intro e;cases e)
     obtain ⟨cs',q3,q4⟩:=Gr hg q1 q2
     refine ⟨_,⟨ad.add (aH t' (.i::aD t f)),cs',rfl,q3,q4,rfl⟩,fun dst ty pos af gd=>?_⟩
     rw [he]
     have:=R.fap (P:=P) (N:=N) (C:=C) (hs:=eh++oh) (I:=Inv G W.φ) (d:=dst) (ty:=ty) (pos:=pos) (af:=af) (gd:=gd) hfo (Ad:=some ad) (j:=0) h1 (fun _ _=>by simp)
     rw [Nat.zero_add] at this
     exact this
    ·cases h
   ·cases h
  ·rename_i t' y
   split at h
   ·rename_i he
    split at h
    ·rename_i s' z hg
     refine ⟨_,h,fun W e eh oh hs=>?_⟩
     obtain ⟨cs0,h1,⟨ad,cs,rfl,q1,q2,_⟩,_⟩:=bD hs.env hx
     obtain ⟨cs',q3,q4⟩:=Gr hg q1 q2
     refine ⟨_,⟨ad.add (aH t' (.i::aD t f)),cs',rfl,q3,q4,rfl⟩,fun dst ty pos af gd=>?_⟩
     rw [he]
     have:=R.fap (P:=P) (N:=N) (C:=C) (hs:=eh++oh) (I:=Inv G W.φ) (d:=dst) (ty:=ty) (pos:=pos) (af:=af) (gd:=gd) hfo (Ad:=some ad) (j:=0) h1 (fun _ _=>by simp)
     rw [Nat.zero_add] at this
     exact this
    ·cases h
   ·cases h
  ·rename_i t' y
   split at h
   ·rename_i he
    obtain ⟨z0,hz0,h⟩:=Option.bind_eq_some_iff.1 h
    split at h
    ·rename_i s' z hg
     refine ⟨_,h,fun W e eh oh hs=>?_⟩
     obtain ⟨cs0,h1,g2,_⟩:=bD hs.env hx
     subst hz0
     obtain ⟨_,ad,cs,rfl,q1,q2⟩:=g2
     obtain ⟨cs',q3,q4⟩:=Gr hg q1 q2
     refine ⟨_,⟨ad.add (aH t' (.i::aD t f)),cs',rfl,q3,q4,rfl⟩,fun dst ty pos af gd=>?_⟩
     rw [he]
     have:=R.fap (P:=P) (N:=N) (C:=C) (hs:=eh++oh) (I:=Inv G W.φ) (d:=dst) (ty:=ty) (pos:=pos) (af:=af) (gd:=gd) hfo (Ad:=some ad) (j:=0) h1 (fun _ _=>by simp)
     rw [Nat.zero_add] at this
     exact this
    ·cases h
   ·cases h
  ·rename_i j p off n z q qo
   refine ⟨_,h,fun W e eh oh hs=>?_⟩
   obtain ⟨v,h',h1,A,m,cc,k1,rfl,_⟩:=bY hs.env hx (by intro e;cases e)
   refine ⟨_,⟨A,m,cc,k1,rfl,rfl⟩,fun dst ty pos af gd=>?_⟩
   have:=R.fap (P:=P) (N:=N) (C:=C) (hs:=eh++oh) (I:=Inv G W.φ) (d:=dst) (ty:=ty) (pos:=pos) (af:=af) (gd:=gd) hfo (Ad:=some A) (j:=n*z+qo) h1 (fun _ _=>by simp)
   rw [Nat.add_assoc] at this
   exact this
  ·rename_i j p off m z q qo
   have hbd:=Option.bind_eq_some_iff.1 h
   clear h
   obtain ⟨n,hn,h⟩:=hbd
   subst hn
   refine ⟨_,h,fun W e eh oh hs=>⟨_,⟨rfl,rfl⟩,fun dst ty pos af gd=>?_⟩⟩
   exact R.Zv hfo (Cw hs.env hx) (by omega)
  ·cases h
omit hc in
theorem GN {a:Ty}: ∀ {n f:Nat},f<nf (fB a n)→f<n∧bX (fB a n) (aD (fB a n) f)=some a∧aH (fB a n) (aD (fB a n) f)=f*a.size
 | 0,f,h=>by simp [fB,nf] at h
 | n+1,0,h=>⟨Nat.succ_pos n,by show bX (.pr a (fB a n)) [.l]=some a;cases a<;>rfl,by show aH a []=0*a.size;rw [Nat.zero_mul];cases a<;>rfl⟩
 | n+1,f+1,h=>by
  obtain ⟨h1,h2,h3⟩:=GN (a:=a) (n:=n) (f:=f) (by simpa [fB,nf] using h)
  refine ⟨by omega,h2,?_⟩
  show a.size+aH (fB a n) (aD (fB a n) f)=(f+1)*a.size
  rw [h3,Nat.succ_mul,Nat.add_comm]
theorem Gu {tx:Nat} {x i:Operand} (h:fF c (.indexAddr tx x i) S kk=some r): ∃ d,kk d=some r∧Cn P N C G S (.indexAddr tx x i) d:=by
 have hT:=hc.ty
 simp only [fF] at h
 generalize hi:S.get i=di at h
 split at h<;>first | cases h | skip
 rename_i k iv
 generalize hx:S.get x=dx at h
 split at h
 ·rename_i t l
  cases hb:iy c tx (.sl t) with
  | false=>rw [hb] at h;cases h
  | true=>
   rw [hb] at h
   simp only [cond_true] at h
   obtain ⟨ti,hti,ho⟩:=iU hT hb
   obtain ⟨e0,he,h⟩:=Option.bind_eq_some_iff.1 h
   obtain ⟨h0,he⟩:=FX he
   refine ⟨_,h,fun W e eh oh hs=>?_⟩
   obtain ⟨cs,g1,⟨A,cc,css,rfl,g3,g4,g5,_⟩,_⟩:=bD hs.env hx
   obtain ⟨ad,ce,rfl,g6,g7⟩:=nD.get g4 g5 he
   refine ⟨_,⟨_,ce,rfl,g6,g7,rfl⟩,fun dst ty pos af gd=>?_⟩
   exact R.Ye (ho.sl t hti).1 g1 (ak hs.env hi) (j:=iv.toNat) (by omega) (by exact (List.getElem?_eq_some_iff.1 he).1) (fun _ _=>by simp)
 ·rename_i j p off
  split at h
  ·rename_i el t l hat
   cases hb:iy c tx (.sl t) with
   | false=>rw [hb] at h;cases h
   | true=>
    rw [hb] at h
    simp only [cond_true] at h
    obtain ⟨ti,hti,ho⟩:=iU hT hb
    obtain ⟨n,hn,h⟩:=Option.bind_eq_some_iff.1 h
    obtain ⟨q1,q2⟩:=OU hn
    refine ⟨_,h,fun W e eh oh hs=>?_⟩
    obtain ⟨v,g1,g2⟩:=sN hs.env hx
    obtain ⟨ob,pre,mid,post,x1,x2,x3,rr,w1,w2,w3,w4,w5⟩:=lV hs.l9 hat
    obtain ⟨A,cc,css,m1,m2,m3,m5,m4⟩:=w4
    subst m1
    have hv:v= .slice A (List.length l) cc:=by
     rw [w2, ← w3] at g2
     simpa using g2.symm
    subst hv
    cases A with
    | none=>exact absurd (m5 (by show 0<List.length l;omega)) (by simp)
    | some A=>
     refine ⟨_,⟨A,_,_,g2,rfl,rfl⟩,fun dst ty pos af gd=>?_⟩
     exact R.Ye (ho.sl t hti).1 g1 (ak hs.env hi) (j:=n) q1 q2 (fun _ _=>by simp)
  ·rename_i el a t l hat
   cases hb:iy c tx (.sl a) with
   | false=>rw [hb] at h;cases h
   | true=>
    rw [hb] at h
    simp only [cond_true] at h
    obtain ⟨ti,hti,ho⟩:=iU hT hb
    obtain ⟨n,hn,h⟩:=Option.bind_eq_some_iff.1 h
    have hn: ∃ y,l=some y∧iv=(y.1.length:Int)∧n=y.1.length:=by
     unfold VQ at hn
     split at hn
     ·cases hn
     ·split at hn
      ·rename_i y hiv
       injection hn with hn
       exact ⟨y,rfl,hiv,hn.symm⟩
      ·cases hn
    obtain ⟨y,rfl,hiv,rfl⟩:=hn
    refine ⟨_,h,fun W e eh oh hs=>?_⟩
    obtain ⟨v,g1,g2⟩:=sN hs.env hx
    obtain ⟨ob,pre,mid,post,x1,x2,x3,rr,w1,w2,w3,w4,w5⟩:=lV hs.l9 hat
    obtain ⟨A,cc,css,ce,he0,m1,m2,m3,m4,m5,m6⟩:=w4
    subst m1
    have hv:v= .slice (some A) (y.1.length+1) cc:=by
     rw [w2, ← w3] at g2
     simpa using g2.symm
    subst hv
    refine ⟨_,⟨A,_,_,g2,rfl,rfl⟩,fun dst ty pos af gd=>?_⟩
    have:=R.Ye (P:=P) (N:=N) (C:=C) (hs:=eh++oh) (I:=Inv G W.φ) (d:=dst) (ty:=ty) (pos:=pos) (af:=af) (gd:=gd) (ho.sl a hti).1 g1 (ak hs.env hi) (j:=y.1.length) hiv (by omega) (fun _ _=>by simp)
    rw [show a.size=t.size by rw [m5,Ty.aF]] at this
    exact this
  ·cases h
 ·rename_i t y
  split at h
  case h_2=>cases h
  case h_1 t' el n hl=>
  split at h
  case h_2=>cases h
  case h_1 a ha=>
  split at h
  case isFalse=>cases h
  case isTrue e1=>
  split at h
  case isFalse=>cases h
  case isTrue e2=>
  subst e1 e2
  obtain ⟨e0,he,h⟩:=Option.bind_eq_some_iff.1 h
  obtain ⟨h0,he⟩:=FX he
  have he:(kD a (n+1) y)[iv.toNat]? =some e0:=he
  obtain ⟨p1,p2,p3⟩:=Cu (q:=[]) he
  obtain ⟨a2,hta,hu,hsz,_⟩:=(hT _ _ hl).ar _ rfl (Nat.succ_pos n)
  have hta:fB a (n+1)=fB a2 (n+1):=hta
  simp only [fB,Ty.pr.injEq] at hta
  obtain ⟨rfl,_⟩:=hta
  refine ⟨_,h,fun W e eh oh hs=>?_⟩
  obtain ⟨v,h',h1,ad,cs,rfl,q1,q2,_⟩:=bY hs.env hx (by intro e;cases e)
  rw [zI] at p1
  rw [qR] at p2
  obtain ⟨cs',f1,f2⟩:=Gr (t:=fB a (n+1)) p1 q1 q2
  rw [p2] at f2
  exact ⟨_,⟨_,cs',rfl,f1,f2,rfl⟩,fun dst ty pos af gd=>R.ZI hu hsz h1 (ak hs.env hi) (m:=iv.toNat) (by omega) p3⟩
 ·rename_i j p off
  split at h<;>first | cases h | skip
  rename_i t el n hl
  cases hci:Ww i with
  | false=>
   rw [hci] at h
   simp only [cond_false] at h
   split at h
   case h_2=>cases h
   case h_1 a ha=>
   have hbd:=Option.bind_eq_some_iff.1 h
   clear h
   obtain ⟨n1,hn1,h⟩:=hbd
   obtain ⟨k1,k2⟩:=OU hn1
   obtain ⟨a2,hta,hu,hsz,_⟩:=(hT _ _ hl).ar t rfl (Nat.succ_pos n)
   have hta:t=fB a2 (n+1):=hta
   subst hta
   have ha:some a2=some a:=ha
   injection ha with ha
   subst ha
   rw [Df] at k2
   refine ⟨_,h,fun W e eh oh hs=>⟨_,⟨rfl,rfl⟩,fun dst ty pos af gd=>?_⟩⟩
   show gP P N C e (eh++oh) (Inv G W.φ) _ (.pointer (some ⟨W.aA j,off+(n1*a2.size+0),none⟩))
   rw [Nat.add_zero]
   exact R.Zx hu hsz (bI hs.env hx) (ak hs.env hi) (m:=n1) k1 k2
  | true=>
  rw [hci] at h
  simp only [cond_true] at h
  cases hb:(decide (0≤iv) && Nat.blt iv.toNat (nf t)) with
  | false=>rw [hb] at h;cases h
  | true=>
   rw [hb] at h
   simp only [cond_true] at h
   simp only [Bool.and_eq_true,decide_eq_true_eq,Nat.blt_eq] at hb
   obtain ⟨a2,hta,hu,hsz,_⟩:=(hT _ _ hl).ar t rfl (Nat.succ_pos n)
   have hta:t=fB a2 (n+1):=hta
   subst hta
   obtain ⟨k1,_,k3⟩:=GN hb.2
   refine ⟨_,h,fun W e eh oh hs=>⟨_,⟨rfl,rfl⟩,fun dst ty pos af gd=>?_⟩⟩
   show gP P N C e (eh++oh) (Inv G W.φ) _ (.pointer (some ⟨W.aA j,off+aH (fB a2 (n+1)) (aD (fB a2 (n+1)) iv.toNat),none⟩))
   rw [k3]
   exact R.Zx hu hsz (bI hs.env hx) (ak hs.env hi) (m:=iv.toNat) (Int.toNat_of_nonneg hb.1).symm k1
 ·cases h
omit hc in
theorem ng {a:Ty}: ∀ {n:Nat} {x:(fB a n).den},(kD a n x).length=n
 | 0,_=>rfl
 | n+1,x=>by show (x.1::kD a n x.2).length=_;rw [List.length_cons,ng]
omit hc in
theorem ER {φ:bL} {a:Ty}: ∀ {n:Nat} {x:(fB a n).den} {cs:List Value} {k:Nat} {e:a.den},Rp φ (fB a n) x cs []→(kD a n x)[k]? =some e→ ∃ pre ce post,cs=pre++ce++post∧pre.length=k*a.size∧Rp φ a e ce []
 | 0,x,cs,k,e,_,h=>by simp [kD] at h
 | n+1,x,cs,k,e,r,h=>by
  obtain ⟨c1,c2,h1,h2,e1,e2,r1,r2⟩:=r
  have hn:h1=[]∧h2=[]:=by simpa using e2.symm
  obtain ⟨rfl,rfl⟩:=hn
  cases k with
  | zero=>
   have h:(x.1::kD a n x.2)[0]? =some e:=h
   simp only [List.getElem?_cons_zero,Option.some.injEq] at h
   subst h
   exact ⟨[],c1,c2,by simp [e1],by simp,r1⟩
  | succ k=>
   have h:(x.1::kD a n x.2)[k+1]? =some e:=h
   rw [List.getElem?_cons_succ] at h
   obtain ⟨pre,ce,post,q1,q2,q3⟩:=ER r2 h
   exact ⟨c1++pre,ce,post,by rw [e1,q1];simp,by rw [List.length_append,q2,r1.len,Nat.succ_mul,Nat.add_comm],q3⟩
omit hc in
theorem R.ZM {e:Env} {hs:List Chunk} {I:World→Prop} {d:Option Tmp} {ty:TypeId} {pos:String} {af:Array Edge} {gd:Option (Nat×Bool)} {φ:bL} {a:Ty} {x:a.den} {tx el n k:Nat} {v i:Operand} {kd:IntKind} {iv:Int} {t:Ty} {cs pre ce post:List Value} (hu:P.underlying tx=some (.array n el)) (hsz:Bw P el a.size=true) (hsc:(∀ b,a≠ .st b)→Ej P el=true) (hag: ∀ b,a= .st b→NK P el b.size=true) (htop:a.top=true) (hr:Rp φ a x ce [])
  (hv:EV e v (sv (.st t) cs)) (hi:EV e i (.int kd iv)) (hk:iv=(k:Int)) (hlt:k<n) (hcs:cs=pre++ce++post) (hp:pre.length=k*a.size):gP P N C e hs I ⟨d, .index tx v i,ty,pos,af,gd⟩ (sv a ce):=fun A w hf _=>by
 subst hk
 have h1:A.eval v= .agg cs.toArray:=hf.ev hv
 have h2:=hf.ev hi
 have h3:=bG (P:=P) hsz w
 have h0:(0:Int)≤(k:Int)∧(k:Int)<(n:Int):=by omega
 have hpart:(part el cs.toArray (k*a.size)).run P w= .ok (sv a ce) w:=by
  rcases kv htop hr with ⟨b,e1,e2⟩ | ⟨e1,u,e2,e3⟩
  ·subst e1
   have h4:=(zw (hag b rfl)).1 w
   rw [e2]
   unfold part
   simp only [Sem.run_bind,h4,Result.andThen_ok,if_true,h3,Sem.run_pure]
   congr 2
   apply Array.ext'
   have hcl:ce.length=(Ty.st b).size:=hr.len
   rw [Array.toList_extract]
   simp only [List.extract_eq_take_drop]
   rw [hcs, ← hp,List.append_assoc,List.drop_append_of_le_length (Nat.le_refl _),List.drop_length,List.nil_append,show pre.length+(Ty.st b).size - pre.length=ce.length by omega,List.take_append_of_le_length (Nat.le_refl _),List.take_length]
  ·have h4:=D9 (hsc e1) w
   rw [e3]
   unfold part
   simp only [Sem.run_bind,h4,Result.andThen_ok]
   have h5:cs.toArray[k*a.size]? =some u:=by
    rw [hcs,e2, ← hp]
    simp
   simp [h5]
 have h6:(Instr.index tx (.agg cs.toArray) (.int kd (k:Int))).run P w= .ok (sv a ce) w:=by
  unfold Instr.index
  simp only [asIntOf,Sem.run_bind,Sem.run_pure,Result.andThen_ok,run_underlying hu]
  rw [if_pos h0]
  simp only [Sem.run_bind,h3,Result.andThen_ok,Int.toNat_natCast]
  exact hpart
 simp only [execOp,h1,h2,Sem.run_bind,h6,Result.andThen_ok]
 rfl
omit hc in
theorem R.Y0 {e:Env} {hs:List Chunk} {I:World→Prop} {d:Option Tmp} {ty:TypeId} {pos:String} {af:Array Edge} {gd:Option (Nat×Bool)} {φ:bL} {a:Ty} {x:a.den} {s f o:Nat} {v:Operand} {t:Ty} {cs pre ce post:List Value} (ho:Lt P s f o=true) (hk:XB P s f a=true) (htop:a.top=true) (hr:Rp φ a x ce [])
  (hv:EV e v (sv (.st t) cs)) (hcs:cs=pre++ce++post) (hp:pre.length=o):gP P N C e hs I ⟨d, .field s v f,ty,pos,af,gd⟩ (sv a ce):=fun A w hf _=>by
 obtain ⟨fs,fx,i,h1,h2,_,_,h5⟩:=zt ho
 unfold XB at hk
 rw [h1] at hk
 simp only [h2] at hk
 rw [Bool.and_eq_true] at hk
 obtain ⟨hsz,hk⟩:=hk
 have h0:A.eval v= .agg cs.toArray:=hf.ev hv
 have h3:=bG (P:=P) hsz w
 have hpart:(part fx.type cs.toArray o).run P w= .ok (sv a ce) w:=by
  rcases kv htop hr with ⟨b,e1,e2⟩ | ⟨e1,u,e2,e3⟩
  ·subst e1
   have h4:=(zw hk).1 w
   rw [e2]
   unfold part
   simp only [Sem.run_bind,h4,Result.andThen_ok,if_true,h3,Sem.run_pure]
   congr 2
   apply Array.ext'
   have hcl:ce.length=(Ty.st b).size:=hr.len
   rw [Array.toList_extract]
   simp only [List.extract_eq_take_drop]
   rw [hcs, ← hp,List.append_assoc,List.drop_append_of_le_length (Nat.le_refl _),List.drop_length,List.nil_append,show pre.length+(Ty.st b).size - pre.length=ce.length by omega,List.take_append_of_le_length (Nat.le_refl _),List.take_length]
  ·have hk:Ej P fx.type=true:=by
    cases a<;>first | exact hk | exact absurd rfl (e1 _)
   have h4:=D9 hk w
   rw [e3]
   unfold part
   simp only [Sem.run_bind,h4,Result.andThen_ok]
   have h6:cs.toArray[o]? =some u:=by
    rw [hcs,e2, ← hp]
    simp
   simp [h6]
 subst h5
 simp [execOp,Instr.field,h0,run_underlying h1,h2,asAgg,hpart]
theorem O1 {s f:Nat} {x:Operand} (h:fF c (.field s x f) S kk=some r): ∃ d,kk d=some r∧Cn P N C G S (.field s x f) d:=by
 simp only [fF] at h
 generalize hx:S.get x=dx at h
 split at h
 case h_2=>cases h
 case h_1 t el t' y hl=>
 split at h
 case isFalse=>cases h
 case isTrue he=>
 subst he
 cases hb:Nat.blt f (nf t') with
 | false=>rw [hb] at h;cases h
 | true=>
 rw [hb] at h
 simp only [cond_true] at h
 have hf:f<nf t':=by simpa [Nat.blt_eq] using hb
 split at h
 case h_2=>cases h
 case h_1 u z hg=>
 cases htop:u.top with
 | false=>rw [htop] at h;cases h
 | true=>
 rw [htop] at h
 simp only [cond_true] at h
 refine ⟨_,h,fun W e eh oh hs=>?_⟩
 obtain ⟨cs,g1,g2,_⟩:=bD hs.env hx
 obtain ⟨pre,mid,post,y1,y2,y3,f1,f2,f3,f4⟩:=sD hg (show Rp W.φ t' y cs [] from g2)
 have hnil:y2=[]:=by
  have:y1++y2++y3=[]:=f3.symm
  simp at this
  exact this.2.1
 subst hnil
 exact ⟨_,⟨mid,htop,rfl,f4⟩,fun dst ty pos af gd=>R.Y0 (((hc.ty _ _ hl).ag t' rfl rfl).1 f hf) ((hc.ty _ _ hl).fk t' rfl rfl f u hf (nI hg)) htop f4 g1 f1 f2⟩
theorem OP {tx:Nat} {x i:Operand} (h:fF c (.index tx x i) S kk=some r): ∃ d,kk d=some r∧Cn P N C G S (.index tx x i) d:=by
 have hT:=hc.ty
 simp only [fF] at h
 generalize hx:S.get x=dx at h
 generalize hi:S.get i=di at h
 split at h
 case h_3=>cases h
 case h_2 t y k iv=>
  split at h
  case h_2=>cases h
  case h_1 t' el n hl=>
  split at h
  case h_2=>cases h
  case h_1 a ha=>
  cases htop:a.top with
  | false=>rw [htop] at h;cases h
  | true=>
  rw [htop] at h
  simp only [cond_true] at h
  split at h
  case isFalse=>cases h
  case isTrue hta=>
  split at h
  case isFalse=>cases h
  case isTrue htt=>
  subst hta
  obtain ⟨e0,he,h⟩:=Option.bind_eq_some_iff.1 h
  obtain ⟨h0,he⟩:=FX he
  have ho:=hT _ _ hl
  obtain ⟨a2,hta2,hu,hsz,hsc,hag,_⟩:=ho.ar t' rfl (Nat.succ_pos n)
  have ha2:a2=a:=by
   have h5:fB a2 (n+1)=fB a (n+1):=hta2.symm.trans htt
   simp only [fB,Ty.pr.injEq] at h5
   exact h5.1
  subst ha2
  refine ⟨_,h,fun W e eh oh hs=>?_⟩
  obtain ⟨cs,g1,g2,_,_⟩:=bD hs.env hx
  obtain ⟨pre,ce,post,k1,k2,k3⟩:=ER g2 he
  refine ⟨_,⟨ce,htop,rfl,k3⟩,fun dst ty pos af gd=>?_⟩
  have hlt:iv.toNat<n+1:=by
   have:=(List.getElem?_eq_some_iff.1 he).1
   rwa [ng] at this
  exact R.ZM hu hsz hsc hag htop k3 g1 (ak hs.env hi) (by omega) hlt k1 k2
 case h_1 l k iv=>
 cases hb:iy c tx .str with
 | false=>rw [hb] at h;cases h
 | true=>
  rw [hb] at h
  simp only [cond_true] at h
  obtain ⟨ti,hti,ho⟩:=iU hT hb
  obtain ⟨b,he,h⟩:=Option.bind_eq_some_iff.1 h
  obtain ⟨h0,he⟩:=FX he
  exact ⟨_,h,fun W e eh oh hs=>⟨_,DR.int,fun dst ty pos af gd=>R.ZE (ho.str hti) (l5 hs.env hx) (ak hs.env hi) (j:=iv.toNat) (by omega) he⟩⟩
omit hc in
theorem ji.get {φ:bL} {L:List Dn} {vs:List Value} {h:List Chunk} (ht:ji φ L vs h) {i:Nat} {t:Ty} {x:t.den} (hi:L[i]? =some ⟨t,x⟩): ∃ cs h',Ig vs i (sv t cs)∧t.top=true∧Rp φ t x cs h':=by
 induction ht generalizing i with
 | nil=>simp at hi
 | @cons t' x' cs h hs l vs h1 h2 h3 ih=>
  cases i with
  | zero=>
   simp only [List.getElem?_cons_zero,Option.some.injEq] at hi
   injection hi with e1 e2
   subst e1
   have e2:=eq_of_heq e2
   subst e2
   exact ⟨cs,h, .here,h1,h2⟩
  | succ i=>
   obtain ⟨cs',h',q1,q2,q3⟩:=ih (by simpa using hi)
   exact ⟨cs',h', .skip q1,q2,q3⟩
omit hc in
theorem JP {x:Operand} {i:Nat} (h:fF c (.extract x i) S kk=some r): ∃ d,kk d=some r∧Cn P N C G S (.extract x i) d:=by
 simp only [fF] at h
 generalize hx:S.get x=dx at h
 split at h<;>first | cases h | skip
 rename_i L
 split at h<;>first | cases h | skip
 rename_i t y hl
 cases htop:t.top with
 | false=>rw [htop] at h;cases h
 | true=>
  rw [htop] at h
  simp only [cond_true] at h
  split at h
  ·rename_i y' hy
   refine ⟨_,h,fun W e eh oh hs=>?_⟩
   obtain ⟨v,h',h1,vs,rfl,q⟩:=bY hs.env hx (by intro e;cases e)
   obtain ⟨cs,h2,g1,g2,g3⟩:=q.get hl
   obtain ⟨h3,r1,_⟩:=eP hy g3
   have:=Rp.aP (Ty.f_ t).symm r1
   subst this
   exact ⟨_,⟨cs,jN hy g2,qI hy cs,r1⟩,fun dst ty pos af gd=>R.ex h1 g1⟩
  ·cases h
theorem Qb {t:Nat} {x:Operand} (h:fF c (.makeInterface t x) S kk=some r): ∃ d,kk d=some r∧Cn P N C G S (.makeInterface t x) d:=by
 simp only [fF] at h
 generalize hx:S.get x=dx at h
 split at h
 ·rename_i t' el t'' y hl
  split at h
  ·rename_i he
   obtain ⟨e0,he2,h⟩:=Option.bind_eq_some_iff.1 h
   refine ⟨_,h,fun W e eh oh hs=>?_⟩
   obtain ⟨cs0,h1,q,_⟩:=bD hs.env hx
   refine ⟨.iface t (.agg cs0.toArray),⟨[_],rfl,rfl,⟨_,rfl,KU (bx:=true) t'' [] [] y e0 cs0 .nil he2 q _ rfl⟩,rfl⟩,fun dst ty pos af gd=>?_⟩
   obtain ⟨_,fs,hu,_⟩:=(hc.ty _ _ hl).ag t' rfl rfl
   exact R.mi hu (by intro m e;cases e) h1
  ·cases h
 ·rename_i t' el sz t'' y hl
  split at h
  ·rename_i he
   refine ⟨_,h,fun W e eh oh hs=>?_⟩
   obtain ⟨cs0,h1,⟨ad,cs,rfl,q1,q2,_⟩,_⟩:=bD hs.env hx
   refine ⟨_,⟨[_],rfl,rfl,rfl,ad,cs,rfl,q1,q2⟩,fun dst ty pos af gd=>?_⟩
   have h2:=((hc.ty _ _ hl).ptr t' rfl).1
   unfold Hf at h2
   split at h2
   ·rename_i u hu
    exact R.mi hu (by intro m e;cases e) h1
   ·cases h2
  ·cases h
 ·rename_i t' el sz j p o hl
  refine ⟨_,h,fun W e eh oh hs=>?_⟩
  have h1:=bI hs.env hx
  refine ⟨_,⟨rfl,rfl⟩,fun dst ty pos af gd=>?_⟩
  have h2:=((hc.ty _ _ hl).ptr t' rfl).1
  unfold Hf at h2
  split at h2
  ·rename_i u hu
   exact R.mi hu (by intro m e;cases e) h1
  ·cases h2
 ·cases h
theorem Ot {x:Operand} {xt a:TypeId} {b:Bool} (h:fF c (.typeAssert x xt a b) S kk=some r): ∃ d,kk d=some r∧Cn P N C G S (.typeAssert x xt a b) d:=by
 cases b with
 | false=>simp only [fF] at h;cases h
 | true=>
 simp only [fF] at h
 generalize hx:S.get x=dx at h
 have two: ∀ {W:d_} {t:Ty} {y:t.den} {v:Value} {q:Bool},t.top=true→(∃ cs,v=sv t cs∧Rp W.φ t y cs [])→DR W (.BQ [⟨t,y⟩,⟨.bool,q⟩]) (.tuple #[v, .bool q]) []:=fun {W t y v q} ht ⟨cs,e1,e2⟩=>by
  subst e1
  exact ⟨[sv t cs, .bool q],rfl, .cons (h:=[]) (hs:=[]) ht e2 (.cons (t:= .bool) (x:=q) (cs:=[.bool q]) (h:=[]) (hs:=[]) rfl ⟨rfl,rfl⟩ .nil)⟩
 split at h
 ·rename_i e0 t' el sz hl
  obtain ⟨g1,g2⟩:=(hc.ty _ _ hl).ptr t' rfl
  obtain ⟨y,hy,h⟩:=Option.bind_eq_some_iff.1 h
  refine ⟨_,h,fun W e eh oh hs=>?_⟩
  obtain ⟨cs0,h1,⟨⟨v0,rfl,hv⟩,_⟩,_⟩:=bD hs.env hx
  rcases T_ hy hv with ⟨rfl,rfl | ⟨i,p,rfl,hne⟩⟩ | ⟨z,ad,cs,rfl,rfl,q1,q2⟩
  ·exact ⟨_,two (t:= .op t') (y:=none) (v:= .pointer none) rfl ⟨[.pointer none],rfl,rfl,rfl⟩,fun dst ty pos af gd=>R.tan g1 g2 h1⟩
  ·exact ⟨_,two (t:= .op t') (y:=none) (v:= .pointer none) rfl ⟨[.pointer none],rfl,rfl,rfl⟩,fun dst ty pos af gd=>R.Zm g1 g2 h1 hne⟩
  ·exact ⟨_,two (t:= .op t') (y:=some z) (v:= .pointer (some ad)) rfl ⟨[.pointer (some ad)],rfl,rfl,ad,cs,rfl,q1,q2⟩,fun dst ty pos af gd=>R.ZC g1 h1⟩
 ·rename_i e0 el sz hl
  obtain ⟨g1,g2⟩:=(hc.ty _ _ hl).er rfl
  split at h
  case h_2=>cases h
  case h_1 l him=>
  obtain ⟨b,hb,h⟩:=Option.bind_eq_some_iff.1 h
  refine ⟨_,h,fun W e eh oh hs=>?_⟩
  obtain ⟨cs0,h1,⟨⟨v0,rfl,hv⟩,_⟩,_⟩:=bD hs.env hx
  cases e0 with
  | nil=>
   have hv:v0= .nilIface:=hv
   subst hv
   have hb:some false=some b:=hb
   injection hb with hb
   subst hb
   exact ⟨_,two (t:= .tr) (y:=Er.nil) (v:= .nilIface) rfl ⟨[.nilIface],rfl,⟨_,rfl,rfl⟩,rfl⟩,fun dst ty pos af gd=>R.Zk g1 g2 h1⟩
  | nd i bx cs k=>
   obtain ⟨p,us,ws,rfl,hr⟩:=id hv
   have hb:look l i=some b:=hb
   have hrun:=hc.im _ _ him i b hb p xt
   refine ⟨_,two (t:= .tr) (y:=bif b then Er.nd i bx cs k else Er.nil) (v:=if b then .iface i p else .nilIface) rfl ?_,fun dst ty pos af gd=>R.X7 h1 hrun⟩
   cases b with
   | true=>exact ⟨[.iface i p],rfl,⟨_,rfl,hv⟩,rfl⟩
   | false=>exact ⟨[.nilIface],rfl,⟨_,rfl,rfl⟩,rfl⟩
 ·rename_i te t y t' el sz hl
  obtain ⟨g1,g2⟩:=(hc.ty _ _ hl).ptr t' rfl
  cases hb:Nat.beq a te with
  | true=>
   rw [hb] at h
   have hb:=Nat.eq_of_beq_eq_true hb
   subst hb
   simp only [cond_true] at h
   split at h
   ·refine ⟨_,h,fun W e eh oh hs=>?_⟩
    obtain ⟨cs0,h1,h2,_⟩:=bD hs.env hx
    obtain ⟨_,h2⟩:=h2
    cases y with
    | none=>
     have h2:cs0=[.nilIface]:=h2
     subst h2
     exact ⟨_,two (t:= .op t) (y:=none) (v:= .pointer none) rfl ⟨[.pointer none],rfl,rfl,rfl⟩,fun dst ty pos af gd=>R.tan g1 g2 h1⟩
    | some y=>
     obtain ⟨ad,cs',rfl,q1,q2⟩:=h2
     exact ⟨_,two (t:= .op t) (y:=some y) (v:= .pointer (some ad)) rfl ⟨[.pointer (some ad)],rfl,rfl,ad,cs',rfl,q1,q2⟩,fun dst ty pos af gd=>R.ZC g1 h1⟩
   ·cases h
  | false=>
   rw [hb] at h
   simp only [cond_false] at h
   have hne:te≠a:=fun e=>by subst e;rw [Nat.beq_refl] at hb;cases hb
   refine ⟨_,h,fun W e eh oh hs=>?_⟩
   obtain ⟨cs0,h1,h2,_⟩:=bD hs.env hx
   obtain ⟨_,h2⟩:=h2
   refine ⟨_,two (t:= .op t') (y:=none) (v:= .pointer none) rfl ⟨[.pointer none],rfl,rfl,rfl⟩,fun dst ty pos af gd=>?_⟩
   cases y with
   | none=>
    have h2:cs0=[.nilIface]:=h2
    subst h2
    exact R.tan g1 g2 h1
   | some y=>
    obtain ⟨ad,cs',rfl,q1,q2⟩:=h2
    exact R.Zm g1 g2 h1 hne
 ·rename_i te t y te' t' el sz hl
  obtain ⟨g1,g2⟩:=(hc.ty _ _ hl).eb te' t' rfl
  obtain ⟨_,hz,h⟩:=Option.bind_eq_some_iff.1 h
  refine ⟨_,h,fun W e eh oh hs=>?_⟩
  obtain ⟨cs0,h1,h2,_⟩:=bD hs.env hx
  obtain ⟨_,h2⟩:=h2
  cases y with
  | some y=>cases hz
  | none=>
   have h2:cs0=[.nilIface]:=h2
   subst h2
   exact ⟨_,two (t:= .eb te t) (y:=none) (v:= .nilIface) rfl ⟨[.nilIface],rfl,rfl,rfl⟩,fun dst ty pos af gd=>R.Zk g1 g2 h1⟩
 ·cases h
omit hc in
theorem CR {φ:bL} {k:IntKind}: ∀ {n:Nat} {x:(fB (.int k) n).den} {cs:List Value},Rp φ (fB (.int k) n) x cs []→cs=(kD (.int k) n x).map (Value.int k)
 | 0,_,_,h=>h.1
 | n+1,x,cs,h=>by
  obtain ⟨c1,c2,h1,h2,e1,e2,⟨r1,_⟩,r2⟩:=h
  obtain ⟨rfl,rfl⟩:=List.append_eq_nil_iff.1 e2.symm
  have:=CR r2
  subst r1 this
  exact e1
theorem SQ {tx:Nat} {t:Ty} {a:t.den} {x y:Operand} {b:Bool} (hx:S.get x= .v (.st t) a) (h:TJ c.ty tx t a (S.get y)=some b): ∀ W e eh oh,aZ S W e eh oh→ ∀ dst ty pos af gd tyy,gP P N C e (eh++oh) (Inv G W.φ) ⟨dst, .binOp .eql tx x y tyy,ty,pos,af,gd⟩ (.bool b)∧gP P N C e (eh++oh) (Inv G W.φ) ⟨dst, .binOp .neq tx x y tyy,ty,pos,af,gd⟩ (.bool (!b)):=by
 generalize hy:S.get y=dy at h
 unfold TJ at h
 split at h
 ·rename_i t' el n t'' b' hl
  split at h
  ·rename_i k hk
   split at h
   ·rename_i htt
    split at h
    ·rename_i h1
     split at h
     ·rename_i h2
      injection h with h
      intro W e eh oh hs dst ty pos af gd tyy
      subst htt h1
      subst h2
      obtain ⟨a2,hta,hu,hsz,_,_,hint⟩:=(hc.ty _ _ hl).ar _ rfl (Nat.succ_pos n)
      have ha2:a2= .int k:=by
       have hta:fB (.int k) (n+1)=fB a2 (n+1):=hta
       simp only [fB,Ty.pr.injEq] at hta
       exact hta.1.symm
      subst ha2
      obtain ⟨cs1,g1,g2,_⟩:=bD hs.env hx
      obtain ⟨cs2,g3,g4,_⟩:=bD hs.env hy
      have e1:=CR (show Rp W.φ (fB (.int k) (n+1)) a cs1 [] from g2)
      have e2:=CR (show Rp W.φ (fB (.int k) (n+1)) b' cs2 [] from g4)
      subst e1 e2
      subst h
      exact ⟨R.Y7 hu (hint k rfl) hsz ng ng g1 g3,R.near hu (hint k rfl) hsz ng ng g1 g3⟩
     ·cases h
    ·cases h
   ·cases h
  ·cases h
 ·cases h
theorem Lr {tx:Nat} {t:Ty} {a:t.den} {x y:Operand} {b:Bool} (hx:S.get x= .v (.st t) a) (h:Q4 c tx t a (S.get y)=some b): ∀ W e eh oh,aZ S W e eh oh→ ∀ dst ty pos af gd tyy,gP P N C e (eh++oh) (Inv G W.φ) ⟨dst, .binOp .eql tx x y tyy,ty,pos,af,gd⟩ (.bool b)∧gP P N C e (eh++oh) (Inv G W.φ) ⟨dst, .binOp .neq tx x y tyy,ty,pos,af,gd⟩ (.bool (!b)):=by
 unfold Q4 at h
 split at h
 case h_2=>exact SQ hc hx h
 case h_1 t' hl=>
 generalize hy:S.get y=dy at h
 split at h
 case h_2=>cases h
 case h_1 t'' b'=>
 split at h
 case isFalse=>cases h
 case isTrue h1=>
 split at h
 case isFalse=>cases h
 case isTrue h2=>
 injection h with h
 subst h1 h2
 subst h
 have ht:=hc.eqs _ _ hl
 have hfl:Ty.flat (.st t'')=true:=by simp only [CW,Bool.and_eq_true] at ht;exact ht.2
 intro W e eh oh hs dst ty pos af gd tyy
 obtain ⟨cs1,g1,g2,_⟩:=bD hs.env hx
 obtain ⟨cs2,g3,g4,_⟩:=bD hs.env hy
 rw [(jK hfl g2).1] at g1
 rw [(jK hfl g4).1] at g3
 exact R.ZQ ht g1 g3
omit hc in
theorem H9 (l:List Int) (s:ByteArray):l.foldl (fun r n=>r.push (UInt8.ofNat n.toNat)) s=⟨s.data++(yz l).toArray⟩:=by
 induction l generalizing s with
 | nil=>simp [yz]
 | cons x r ih=>
  rw [List.foldl_cons,ih]
  congr 1
  simp [ByteArray.push,yz]
omit hc in
theorem Ux {φ:bL} {l:List Int} {css:List (List Value)} (h:bz (fun (x:Int) cs=>Rp φ (.int .u8) x cs []) l css):css=List.map (fun n:Int=>[Value.int .u8 n]) l:=by
 induction h with
 | nil=>rfl
 | cons q _ ih=>obtain ⟨rfl,_⟩:=q;rw [ih];rfl
omit hc in
theorem Li (l:List Int):(List.map (fun n:Int=>[Value.int .u8 n]) l).flatten=List.map (Value.int .u8) l:=by
 induction l with
 | nil=>rfl
 | cons x q ih=>simp [ih]
theorem Ki {s t:Nat} {x:Operand} (h:fF c (.convert s t x) S kk=some r): ∃ d,kk d=some r∧Cn P N C G S (.convert s t x) d:=by
 simp only [fF] at h
 generalize hx:S.get x=dx at h
 split at h
 ·rename_i hs1 k' _ _ k a hl ht
  refine ⟨_,h,fun W e eh oh hs=>⟨_,DR.int,fun dst ty pos af gd=>?_⟩⟩
  obtain ⟨ds,hds⟩:=(hc.ty _ _ hl).un
  exact R.ZN hds ((hc.ty _ _ ht).int _ rfl) (ak hs.env hx) rfl
 ·rename_i el sz _ _ l hl ht
  refine ⟨_,h,fun W e eh oh hs=>⟨_,DR.str,fun dst ty pos af gd a w hf hb=>?_⟩⟩
  obtain ⟨cs,g1,⟨A,cc,css,rfl,g3,g4,g5,_⟩,_⟩:=bD hs.env hx
  have hby:=((hc.ty _ _ hl).sl _ rfl).2.2.1 rfl
  unfold TL at hby
  simp only [Bool.and_eq_true] at hby
  have h1:P.underlying s=some (.slice el):=by
   have h:=hby.1
   split at h
   ·rename_i e2 he
    have:el=e2:=by simpa using h
    rw [this];exact he
   ·cases h
  have h2:P.underlying el=some (.int .u8):=by
   have h:=hby.2
   split at h
   ·rename_i he;exact he
   ·cases h
  have hcss:css=List.map (fun n:Int=>[Value.int .u8 n]) l:=Ux g4
  have h3:(convert s t (.slice A (List.length l) cc)).run P w= .ok (iM.str (yz l)) w:=by
   rw [run_convert_bytes_string w s t el A (List.length l) cc h1 h2 (jP ((hc.ty _ _ ht).str rfl))]
   cases A with
   | none=>
    have:l=[]:=by
     cases hl0:l with
     | nil=>rfl
     | cons x q=>rw [hl0] at g5;obtain ⟨ad,h4,_⟩:=g5 (by simp);cases h4
    subst this
    rfl
   | some ad=>
    have h5:=run_bytesToString (P:=P) w ad (List.length l) cc l (by
     have:=kV (P:=P) (a:=ad) (w:=w) (List.map (Value.int .u8) l) 0 #[] (fun j v hj=>by
      have hlt:j<List.length l:=by have:=(List.getElem?_eq_some_iff.1 hj).1;simpa using this
      obtain ⟨ad',h6,h7⟩:=g5 (by omega)
      injection h6 with h6
      subst h6
      rw [Nat.zero_add]
      refine hb.get.2 _ _ (h7 j v ?_)
      rw [hcss]
      rw [Li]
      exact hj)
     simpa [loadCells] using this)
    rw [h5,H9]
    simp
  simp [execOp,hf.ev g1,sv,h3]
 ·rename_i t0 _ _ _ k a hl ht
  refine ⟨_,h,fun W e eh oh hs=>⟨_,DR.str,fun dst ty pos af gd a' w hf hb=>?_⟩⟩
  obtain ⟨ds,hds⟩:=(hc.ty _ _ hl).un
  have h3:(convert s t (.int k a)).run P w= .ok (iM.str (encR a)) w:=by
   rw [run_convert_int_string w s t k a (by rw [hds];rfl) (jP ((hc.ty _ _ ht).str rfl))]
   simp [iM.str,encR]
  simp [execOp,hf.ev (ak hs.env hx),h3]
 ·cases h
omit hc in
theorem qf {φ:bL}: ∀ {t:Ty} {x:t.den},zero t=some x→ ∃ h,Rp φ t x (dA t) h∧Sub [] h
 | .int _,x=>fun e=>by
   have:x=(0:Int):=by simpa [zero] using e.symm
   subst this;exact ⟨[],⟨rfl,rfl⟩,Sub.refl _⟩
 | .bool,x=>fun e=>by
   have:x=false:=by simpa [zero] using e.symm
   subst this;exact ⟨[],⟨rfl,rfl⟩,Sub.refl _⟩
 | .str,x=>fun e=>by
   have:x=([]:List UInt8):=by simpa [zero] using e.symm
   subst this;exact ⟨[],⟨rfl,rfl⟩,Sub.refl _⟩
 | .unit,x=>fun e=>⟨[],⟨rfl,rfl⟩,Sub.refl _⟩
 | .it,x=>fun e=>by simp [zero] at e
 | .xX,x=>fun e=>by simp [zero] at e
 | .dead _ _,x=>fun e=>by simp [zero] at e
 | .bx _ _,x=>fun e=>by simp [zero] at e
 | .on _,x=>fun e=>by simp [zero] at e
 | .fl _,x=>fun e=>by simp [zero] at e
 | .bo _ t,x=>fun e=>by
   have:x=(none:Option t.den):=by simpa [zero] using e.symm
   subst this;exact ⟨[],⟨rfl,rfl⟩,Sub.refl _⟩
 | .tr,x=>fun e=>by
   have:x=Er.nil:=by simpa [zero] using e.symm
   subst this;exact ⟨[],⟨⟨_,rfl,rfl⟩,rfl⟩,Sub.refl _⟩
 | .bn,x=>fun e=>by
   have:x=false:=by simpa [zero] using e.symm
   subst this;exact ⟨[],⟨⟨none,rfl,rfl⟩,rfl⟩,Sub.refl _⟩
 | .ml _ a t,x=>fun e=>by
   have:x=(none:Option (List a.den×t.den)):=by simpa [zero] using e.symm
   subst this;exact ⟨[],⟨rfl,rfl⟩,Sub.refl _⟩
 | .sl t,x=>fun e=>by
   have:x=([]:List t.den):=by simpa [zero] using e.symm
   subst this;exact ⟨[],⟨none,0,[],rfl,Nat.le_refl _, .nil,fun h=>absurd h (by simp),rfl⟩,Sub.refl _⟩
 | .rw el t,x=>fun e=>by
   have:x=([]:List t.den):=by simpa [zero] using e.symm
   subst this;exact ⟨_,⟨none,0,[],rfl,Nat.le_refl _, .nil,fun h=>absurd h (by simp),rfl⟩,Sub.mZ true el t.size⟩
 | .mr el t,x=>fun e=>by
   have:x=([]:List t.den):=by simpa [zero] using e.symm
   subst this;exact ⟨_,⟨none,0,[],rfl,Nat.le_refl _, .nil,fun h=>absurd h (by simp),rfl⟩,Sub.mZ false el t.size⟩
 | .ptr _,x=>fun e=>by simp [zero] at e
 | .eb _ t,x=>fun e=>by
   have:x=(none:Option t.den):=by simpa [zero] using e.symm
   subst this;exact ⟨[],⟨rfl,rfl⟩,Sub.refl _⟩
 | .op t,x=>fun e=>by
   have:x=(none:Option t.den):=by simpa [zero] using e.symm
   subst this;exact ⟨[],⟨rfl,rfl⟩,Sub.refl _⟩
 | .st t,x=>fun e=>qf (t:=t) (by simpa only [zero] using e)
 | .pr a b,x=>fun e=>by
  unfold zero at e
  split at e
  ·rename_i y z hy hz
   simp only [Option.some.injEq] at e
   subst e
   obtain ⟨h1,r1,s1⟩:=qf (φ:=φ) hy
   obtain ⟨h2,r2,s2⟩:=qf (φ:=φ) hz
   exact ⟨h1++h2,⟨_,_,h1,h2,rfl,rfl,r1,r2⟩,Sub.app s1 s2⟩
  ·cases e
omit hc in
theorem Cf (pre mid post vs:List Value) (h:vs.length=mid.length):Ee (pre++mid++post) pre.length vs (pre++vs++post):=by
 induction pre with
 | cons x r ih=>exact .skip ih
 | nil=>
  simp only [List.nil_append,List.length_nil]
  induction mid generalizing vs with
  | nil=>
   have:vs=[]:=List.length_eq_zero_iff.1 (by simpa using h)
   subst this
   exact .zero
  | cons y q ih=>
   cases vs with
   | nil=>cases h
   | cons v q'=>exact .here (ih q' (by simpa using h))
theorem Fz {id:Nat} {t:Ty} {i:HV} (hi:look c.ty id=some i) (hty:i.ty= .st t) (hsz:i.sz=0) {W:d_} {e:Env} {hs:List Chunk} (he:ay W S.env e hs):
  ∀ (parts:List (Nat×Operand)) (z y:t.den) (cs:List Value),oz S t parts z=some y→Rp W.φ t z cs []→ ∃ cs',Rp W.φ t y cs' []∧Parts P id e cs parts cs'
 | [],z,y,cs=>fun h r=>by
  have:z=y:=by simpa [oz] using h
  subst this
  exact ⟨cs,r, .nil⟩
 | (f,x)::q,z,y,cs=>fun h r=>by
  have ho:=hc.ty _ _ hi
  have hfr:t=t.er:=by have:=ho.DN;rw [hty] at this;simpa [Ty.er] using this
  unfold oz at h
  cases hn:Nat.blt f (nf t) with
  | false=>rw [hn] at h;cases h
  | true=>
   rw [hn] at h
   simp only [cond_true] at h
   have hlt:f<nf t:=by simpa [Nat.blt_eq] using hn
   split at h<;>first | cases h | skip
   rename_i s x0 hg
   split at h<;>first | cases h | skip
   rename_i yv hy
   split at h<;>first | cases h | skip
   rename_i t' z' hst
   split at h
   ·rename_i het
    have hgt:=nI hg
    have hs1:s=s.er:=rO (t:= .st t) (by simp [Ty.er, ← hfr]) hgt
    obtain ⟨vs,g1,g2⟩:=jo he hy hs1
    obtain ⟨pre,mid,post,h1,h2,h3,s0,q0,q1,q2,q3,q4,q5,q6,q7,q8⟩:=iC (t:= .st t) hst r
    have hs0:s0=⟨s,x0⟩:=Option.some.inj (q0.symm.trans hg)
    subst hs0
    have hnil:h1=[]∧h2=[]∧h3=[]:=by
     have:h1++h2++h3=[]:=q4.symm
     simpa [and_assoc] using this
    obtain ⟨rfl,rfl,rfl⟩:=hnil
    have q9:=q8 W.φ vs [] W.φ.le_refl g2
    subst het
    obtain ⟨cs',r1,r2⟩:=Fz hi hty hsz he q z' y _ h q9
    obtain ⟨hf1,fs,_,_,hf2⟩:=ho.ag t hty hsz
    have htop:s.top=true:=by
     generalize hd:S.get x=d at hy
     unfold gy at hy
     split at hy
     ·obtain ⟨_,_,_,ht,_⟩:=bD he hd;exact jN hy ht
     ·split at hy<;>first | rfl | (simp [Ty.er] at hs1;done) | cases hy
     ·split at hy<;>first | rfl | cases hy
     ·split at hy<;>first | rfl | cases hy
     ·split at hy<;>first | rfl | cases hy
     ·cases hy
    have hlv:vs.length=s.size:=g2.len
    refine ⟨cs',r1, .cons (hf1 f hlt) (hf2 f s hlt hgt) hlv g1 (jX htop g2) ?_ r2⟩
    have hq3:pre.length=aH t (aD t f):=q3
    rw [← hq3,q2]
    exact Cf pre mid post vs (by rw [hlv,q5.len])
   ·cases h
omit hc in
theorem JC: ∀ (t:Ty),nf t.er=nf t
 | .pr _ b=>by show nf b.er+1=nf b+1;rw [JC b]
 | .unit=>rfl | .int _=>rfl | .bool=>rfl | .str=>rfl | .it=>rfl | .xX=>rfl | .sl _=>rfl | .rw _ _=>rfl | .mr _ _=>rfl | .dead _ _=>rfl | .eb _ _=>rfl | .op _=>rfl | .bx _ _=>rfl | .on _=>rfl | .fl _=>rfl | .bo _ _=>rfl | .bn=>rfl | .tr=>rfl | .ml _ _ _=>rfl | .ptr _=>rfl | .st _=>rfl
omit hc in
theorem vF: ∀ (t:Ty) (f:Nat),aD t.er f=aD t f
 | .pr _ _,0=>rfl
 | .pr _ b,f+1=>by show Dir.r::aD b.er f=Dir.r::aD b f;rw [vF b f]
 | .unit,_=>rfl | .int _,_=>rfl | .bool,_=>rfl | .str,_=>rfl | .it,_=>rfl | .xX,_=>rfl | .sl _,_=>rfl | .rw _ _,_=>rfl | .mr _ _,_=>rfl | .dead _ _,_=>rfl | .eb _ _,_=>rfl | .op _,_=>rfl | .bx _ _,_=>rfl | .on _,_=>rfl | .fl _,_=>rfl | .bo _ _,_=>rfl | .bn,_=>rfl | .tr,_=>rfl | .ml _ _ _,_=>rfl | .ptr _,_=>rfl | .st _,_=>rfl
omit hc in
theorem Kj: ∀ (t:Ty) (f:Nat),aH t.er (aD t f)=aH t (aD t f)
 | .pr a b,0=>by show aH a.er []=aH a [];rw [qR,qR]
 | .pr a b,f+1=>by show a.er.size+aH b.er (aD b f)=a.size+aH b (aD b f);rw [Kj b f,Ty.aF]
 | .unit,_=>rfl | .int _,_=>rfl | .bool,_=>rfl | .str,_=>rfl | .it,_=>rfl | .xX,_=>rfl | .sl _,_=>rfl | .rw _ _,_=>rfl | .mr _ _,_=>rfl | .dead _ _,_=>rfl | .eb _ _,_=>rfl | .op _,_=>rfl | .bx _ _,_=>rfl | .on _,_=>rfl | .fl _,_=>rfl | .bo _ _,_=>rfl | .bn,_=>rfl | .tr,_=>rfl | .ml _ _ _,_=>rfl | .ptr _,_=>rfl | .st t,_=>by show aH (.st t.er) []=aH (.st t) [];rw [qR,qR]
omit hc in
theorem wV {t:Ty}:bX t []=some t:=by unfold bX;rfl
omit hc in
theorem DX: ∀ (t:Ty) (f:Nat) {s:Ty},bX t (aD t f)=some s→bX t.er (aD t f)=some s.er
 | .pr a b,0,s,h=>by
  have h:bX a []=some s:=h
  rw [wV] at h
  injection h with h
  subst h
  exact wV
 | .pr a b,f+1,s,h=>DX b f h
 | .unit,_,s,h=>by have h:some _=some s:=h;injection h with h;subst h;rfl
 | .int _,_,s,h=>by have h:some _=some s:=h;injection h with h;subst h;rfl
 | .bool,_,s,h=>by have h:some _=some s:=h;injection h with h;subst h;rfl
 | .str,_,s,h=>by have h:some _=some s:=h;injection h with h;subst h;rfl
 | .it,_,s,h=>by have h:some _=some s:=h;injection h with h;subst h;rfl
 | .xX,_,s,h=>by have h:some _=some s:=h;injection h with h;subst h;rfl
 | .sl _,_,s,h=>by have h:some _=some s:=h;injection h with h;subst h;rfl
 | .rw _ _,_,s,h=>by have h:some _=some s:=h;injection h with h;subst h;rfl
 | .mr _ _,_,s,h=>by have h:some _=some s:=h;injection h with h;subst h;rfl
 | .dead _ _,_,s,h=>by have h:some _=some s:=h;injection h with h;subst h;rfl
 | .eb _ _,_,s,h=>by have h:some _=some s:=h;injection h with h;subst h;rfl
 | .op _,_,s,h=>by have h:some _=some s:=h;injection h with h;subst h;rfl
 | .bx _ _,_,s,h=>by have h:some _=some s:=h;injection h with h;subst h;rfl
 | .on _,_,s,h=>by have h:some _=some s:=h;injection h with h;subst h;rfl
 | .fl _,_,s,h=>by have h:some _=some s:=h;injection h with h;subst h;rfl
 | .bo _ _,_,s,h=>by have h:some _=some s:=h;injection h with h;subst h;rfl
 | .tr,_,s,h=>by have h:some _=some s:=h;injection h with h;subst h;rfl
 | .bn,_,s,h=>by have h:some _=some s:=h;injection h with h;subst h;rfl
 | .ml _ _ _,_,s,h=>by have h:some _=some s:=h;injection h with h;subst h;rfl
 | .ptr _,_,s,h=>by have h:some _=some s:=h;injection h with h;subst h;rfl
 | .st t,_,s,h=>by
  have h:bX (.st t) []=some s:=h
  rw [wV] at h
  injection h with h
  subst h
  exact wV
theorem FH {id:Nat} {u:Ty} {i:HV} (hi:look c.ty id=some i) (hty:i.ty= .st u.er) (hsz:i.sz=0) {W:d_} {e:Env} {hs:List Chunk} (he:ay W S.env e hs):
  ∀ (parts:List (Nat×Operand)) (z y:u.den) (cs:List Value) (h0:List Chunk),Gm u parts=true→oz S u parts z=some y→Rp W.φ u z cs h0→ ∃ cs',Rp W.φ u y cs' h0∧Parts P id e cs parts cs'
 | [],z,y,cs,h0=>fun _ h r=>by
  have:z=y:=by simpa [oz] using h
  subst this
  exact ⟨cs,r, .nil⟩
 | (f,x)::q,z,y,cs,h0=>fun hpf h r=>by
  have ho:=hc.ty _ _ hi
  unfold Gm at hpf
  simp only [List.all_cons,Bool.and_eq_true] at hpf
  obtain ⟨hp1,hp2⟩:=hpf
  unfold oz at h
  cases hn:Nat.blt f (nf u) with
  | false=>rw [hn] at h;cases h
  | true=>
   rw [hn] at h
   simp only [cond_true] at h
   have hlt:f<nf u:=by simpa [Nat.blt_eq] using hn
   split at h<;>first | cases h | skip
   rename_i s x0 hg
   split at h<;>first | cases h | skip
   rename_i yv hy
   split at h<;>first | cases h | skip
   rename_i t' z' hst
   split at h
   ·rename_i het
    have hgt:bX u (aD u f)=some s:=nI (t:= .st u) hg
    rw [hgt] at hp1
    have hs1:s=s.er:=by simpa using hp1
    obtain ⟨vs,g1,g2⟩:=jo he hy hs1
    obtain ⟨pre,mid,post,h1,h2,h3,s0,q0,q1,q2,q3,q4,q5,q6,q7,q8⟩:=iC (t:= .st u) hst r
    have hs0:s0=⟨s,x0⟩:=Option.some.inj (q0.symm.trans hg)
    subst hs0
    have:=Rp.aP hs1 q5
    subst this
    have q9:=q8 W.φ vs [] W.φ.le_refl g2
    rw [← q4] at q9
    subst het
    obtain ⟨cs',r1,r2⟩:=FH hi hty hsz he q z' y _ h0 hp2 h q9
    obtain ⟨hf1,fs,_,_,hf2⟩:=ho.ag u.er hty hsz
    have htop:s.top=true:=by
     generalize hd:S.get x=d at hy
     unfold gy at hy
     split at hy
     ·obtain ⟨_,_,_,ht,_⟩:=bD he hd;exact jN hy ht
     ·split at hy<;>first | rfl | (simp [Ty.er] at hs1;done) | cases hy
     ·split at hy<;>first | rfl | cases hy
     ·split at hy<;>first | rfl | cases hy
     ·split at hy<;>first | rfl | cases hy
     ·cases hy
    have hlv:vs.length=s.size:=g2.len
    have hf1':=hf1 f (by rw [JC];exact hlt)
    rw [vF,Kj] at hf1'
    have hf2':=hf2 f s.er (by rw [JC];exact hlt) (by rw [vF];exact DX u f hgt)
    rw [← hs1] at hf2'
    refine ⟨cs',r1, .cons hf1' hf2' hlv g1 (jX htop g2) ?_ r2⟩
    have hq3:pre.length=aH u (aD u f):=q3
    rw [← hq3,q2]
    exact Cf pre mid post vs (by rw [hlv,q5.len])
   ·cases h
theorem E_ {id n:Nat} {t:Ty} {i:HV} (hi:look c.ty id=some i) (hty:i.ty= .st t) (hsz:i.sz=n+1) {W:d_} {e:Env} {hs:List Chunk} (he:ay W S.env e hs):
  ∀ (parts:List (Nat×Operand)) (z y:t.den) (cs:List Value),oz S t parts z=some y→Rp W.φ t z cs []→ ∃ cs',Rp W.φ t y cs' []∧Am P i.el e cs parts cs'
 | [],z,y,cs=>fun h r=>by
  have:z=y:=by simpa [oz] using h
  subst this
  exact ⟨cs,r, .nil⟩
 | (f,x)::q,z,y,cs=>fun h r=>by
  have ho:=hc.ty _ _ hi
  have hfr:t=t.er:=by have:=ho.DN;rw [hty] at this;simpa [Ty.er] using this
  unfold oz at h
  cases hn:Nat.blt f (nf t) with
  | false=>rw [hn] at h;cases h
  | true=>
   rw [hn] at h
   simp only [cond_true] at h
   have hlt:f<nf t:=by simpa [Nat.blt_eq] using hn
   split at h<;>first | cases h | skip
   rename_i s x0 hg
   split at h<;>first | cases h | skip
   rename_i yv hy
   split at h<;>first | cases h | skip
   rename_i t' z' hst
   split at h
   ·rename_i het
    have hgt:=nI hg
    have hs1:s=s.er:=rO (t:= .st t) (by simp [Ty.er, ← hfr]) hgt
    obtain ⟨vs,g1,g2⟩:=jo he hy hs1
    obtain ⟨pre,mid,post,h1,h2,h3,s0,q0,q1,q2,q3,q4,q5,q6,q7,q8⟩:=iC (t:= .st t) hst r
    have hs0:s0=⟨s,x0⟩:=Option.some.inj (q0.symm.trans hg)
    subst hs0
    have hnil:h1=[]∧h2=[]∧h3=[]:=by
     have:h1++h2++h3=[]:=q4.symm
     simpa [and_assoc] using this
    obtain ⟨rfl,rfl,rfl⟩:=hnil
    have q9:=q8 W.φ vs [] W.φ.le_refl g2
    subst het
    obtain ⟨cs',r1,r2⟩:=E_ hi hty hsz he q z' y _ h q9
    obtain ⟨a,hta,_,hsza,_⟩:=ho.ar t hty (by omega)
    obtain ⟨k1,k2,k3⟩:=GN (a:=a) (n:=i.sz) (f:=f) (by rw [← hta];exact hlt)
    have hsa:s=a:=by
     rw [← hta] at k2
     exact Option.some.inj ((show bX t (aD t f)=some s from hgt).symm.trans k2)
    have htop:=vo he hy hs1
    have hlv:vs.length=s.size:=g2.len
    refine ⟨cs',r1, .cons (n:=a.size) hsza (by rw [hlv,hsa]) g1 (jX htop g2) ?_ r2⟩
    have hq3:pre.length=aH t (aD t f):=q3
    rw [← hta] at k3
    rw [← k3, ← hq3,q2]
    exact Cf pre mid post vs (by rw [hlv,q5.len])
   ·cases h
theorem Pn {t:Nat} {parts:Array (Nat×Operand)} (h:fF c (.build t parts) S kk=some r): ∃ d,kk d=some r∧Cn P N C G S (.build t parts) d:=by
 simp only [fF] at h
 split at h<;>first | cases h | skip
 rename_i t' el sz hl
 have ho:=hc.ty _ _ hl
 split at h<;>first | cases h | skip
 rename_i z hz
 split at h<;>first | cases h | skip
 rename_i y hy
 refine ⟨_,h,fun W e eh oh hs=>?_⟩
 obtain ⟨h0,r0,_⟩:=qf (φ:=W.φ) hz
 have hfr:t'=t'.er:=by have:=ho.DN;simpa [Ty.er] using this
 have:=Rp.aP hfr r0
 subst this
 cases sz with
 | succ n=>
  obtain ⟨cs',r1,r2⟩:=E_ hc hl rfl rfl hs.env _ _ _ _ hy r0
  obtain ⟨a,_,hu,hsz,_⟩:=ho.ar t' rfl (Nat.succ_pos n)
  refine ⟨.agg cs'.toArray,⟨cs',rfl,rfl,r1⟩,fun dst ty pos af gd=>?_⟩
  have:=R.YF (P:=P) (N:=N) (C:=C) (hs:=eh++oh) (I:=Inv G W.φ) (d:=dst) (ty:=ty) (pos:=pos) (af:=af) (gd:=gd) hu hsz (ho.zero (by show (zero t').isSome=true;rw [hz];rfl)) r2
  simpa using this
 | zero=>
 obtain ⟨cs',r1,r2⟩:=Fz hc hl rfl rfl hs.env _ _ _ _ hy r0
 obtain ⟨_,fs,hu,hst,_⟩:=ho.ag t' rfl rfl
 refine ⟨.agg cs'.toArray,⟨cs',rfl,rfl,r1⟩,fun dst ty pos af gd=>?_⟩
 have:=R.Yh (P:=P) (N:=N) (C:=C) (hs:=eh++oh) (I:=Inv G W.φ) (d:=dst) (ty:=ty) (pos:=pos) (af:=af) (gd:=gd) hu hst (ho.zero (by show (zero t').isSome=true;rw [hz];rfl)) r2
 simpa using this
omit hc in
theorem Yp (a b:Int):(if a<b then b else a)=max a b:=by simp only [Int.max_def];split<;>split<;>omega
omit hc in
theorem Y1 (a b:Int):(if b<a then b else a)=min a b:=by simp only [Int.min_def];split<;>split<;>omega
omit hc in
theorem EN {args:Array Operand} {og:Array TypeId} {b:Builtin} (hb:b= .max∨b= .min) (h:fF c (.call ⟨.builtin b,args,og⟩) S kk=some r): ∃ d,kk d=some r∧Cn P N C G S (.call ⟨.builtin b,args,og⟩) d:=by
 rcases hb with rfl | rfl
 ·simp only [fF] at h
  split at h<;>first | cases h | skip
  rename_i x y ha
  have e1:args= #[x,y]:=by rw [← Array.toArray_toList (xs:=args),ha]
  subst e1
  generalize hx:S.get x=dx at h
  generalize hy:S.get y=dy at h
  split at h<;>first | cases h | skip
  rename_i k1 a k2 b2
  split at h
  ·rename_i hk
   subst hk
   exact ⟨_,h,fun W e eh oh hs=>⟨_,DR.int,fun dst ty pos af gd=>R.YG (ak hs.env hx) (ak hs.env hy) (Yp a b2)⟩⟩
  ·cases h
 ·simp only [fF] at h
  split at h<;>first | cases h | skip
  rename_i x y ha
  have e1:args= #[x,y]:=by rw [← Array.toArray_toList (xs:=args),ha]
  subst e1
  generalize hx:S.get x=dx at h
  generalize hy:S.get y=dy at h
  split at h<;>first | cases h | skip
  rename_i k1 a k2 b2
  split at h
  ·rename_i hk
   subst hk
   exact ⟨_,h,fun W e eh oh hs=>⟨_,DR.int,fun dst ty pos af gd=>R.X3 (ak hs.env hx) (ak hs.env hy) (Y1 a b2)⟩⟩
  ·cases h
def Cm:Op→Bool
 | .call cl=>match cl.callee with | .value _=>false | _=>true
 | _=>true
omit hc in
theorem zg {W:d_} {e:Env} {eh:List Chunk} (hE:ay W S.env e eh): ∀ (xs:List Operand) (l:List (Bool×Nat×List Dir×Nat)),IM S xs=some l→ ∃ vs,OW e xs vs∧bz (zk W) l vs
 | [],l,h=>by
  injection h with h
  subst h
  exact ⟨[], .nil, .nil⟩
 | x::r,l,h=>by
  unfold IM at h
  generalize hx:S.get x=dx at h
  split at h
  ·rename_i j p o m hr
   injection h with h
   subst h
   obtain ⟨vs,q1,q2⟩:=zg hE r m hr
   exact ⟨_::vs, .cons (bI hE hx) q1, .cons rfl q2⟩
  ·rename_i j p o m hr
   injection h with h
   subst h
   obtain ⟨vs,q1,q2⟩:=zg hE r m hr
   obtain ⟨v,_,q3,q4,_⟩:=bY hE hx (by intro e;cases e)
   exact ⟨v::vs, .cons q3 q1, .cons q4 q2⟩
  ·cases h
theorem K9 {o:Op} (hq:Cm o=true) (h:fF c o S kk=some r): ∃ d,kk d=some r∧Cn P N C G S o d:=by
 have lift:(∃ d,kk d=some r∧Cn P N C G S o d)→ ∃ d,kk d=some r∧Cn P N C G S o d:=id
 have mv: ∀ x,(o= .move x∨o= .assign x)→D5 (S.get x) kk=some r→ ∃ d,kk d=some r∧Cn P N C G S o d:=by
  intro x hx h
  generalize hd:S.get x=d at h
  have hne:d≠ .und:=fun e=>by rw [e] at h;cases h
  have hk:kk d=some r:=by
   unfold D5 at h
   split at h
   ·cases h
   ·exact h
  refine ⟨d,hk,fun W e eh oh hs=>?_⟩
  obtain ⟨v,h1,h2⟩:=get_nil hs.env hd hne
  rcases hx with rfl | rfl
  ·exact ⟨v,h2,fun dst ty pos af gd=>R.mv h1⟩
  ·exact ⟨v,h2,fun dst ty pos af gd=>R.as h1⟩
 cases o<;>first | (simp only [fF] at h;cases h;done) | skip
 case move x=>exact lift (mv x (.inl rfl) (by simpa only [fF] using h))
 case assign x=>exact lift (mv x (.inr rfl) (by simpa only [fF] using h))
 case pick a x y=>exact lift (Qc (by simpa only [fF] using h))
 case nilCheck x=>
  refine lift ?_
  simp only [fF] at h
  generalize hx:S.get x=dx at h
  split at h
  ·exact ⟨_,h,fun W e eh oh hs=>⟨_,⟨rfl,rfl⟩,fun dst ty pos af gd=>R.nc (bI hs.env hx)⟩⟩
  ·refine ⟨_,h,fun W e eh oh hs=>?_⟩
   obtain ⟨v,h',h1,ad,cs,rfl,q1,q2,_⟩:=bY hs.env hx (by intro e;cases e)
   exact ⟨_,⟨ad,cs,rfl,q1,q2,rfl⟩,fun dst ty pos af gd=>R.nc h1⟩
  ·refine ⟨_,h,fun W e eh oh hs=>?_⟩
   obtain ⟨v,h',h1,A,m,cc,k1,rfl,_⟩:=bY hs.env hx (by intro e;cases e)
   exact ⟨_,⟨A,m,cc,k1,rfl,rfl⟩,fun dst ty pos af gd=>R.nc h1⟩
  ·have hbd:=Option.bind_eq_some_iff.1 h
   clear h
   obtain ⟨n,hn,h⟩:=hbd
   subst hn
   exact ⟨_,h,fun W e eh oh hs=>⟨_,⟨rfl,rfl⟩,fun dst ty pos af gd=>R.nc (Cw hs.env hx)⟩⟩
  ·refine ⟨_,h,fun W e eh oh hs=>?_⟩
   obtain ⟨cs0,h1,⟨ad,cs,rfl,q1,q2,_⟩,h3,_⟩:=bD hs.env hx
   exact ⟨_,⟨_,rfl,rfl,ad,cs,rfl,q1,q2,rfl⟩,fun dst ty pos af gd=>R.nc h1⟩
  ·obtain ⟨z,hz,h⟩:=Option.bind_eq_some_iff.1 h
   refine ⟨_,h,fun W e eh oh hs=>?_⟩
   obtain ⟨cs0,h1,g2,h3,_⟩:=bD hs.env hx
   subst hz
   obtain ⟨_,ad,cs,rfl,q1,q2⟩:=g2
   exact ⟨_,⟨ad,cs,rfl,q1,q2,rfl⟩,fun dst ty pos af gd=>R.nc h1⟩
  ·refine ⟨_,h,fun W e eh oh hs=>?_⟩
   obtain ⟨v,h',h1,⟨c0,rfl,q2⟩,_⟩:=bY hs.env hx (by intro e;cases e)
   exact ⟨_,⟨⟨c0,rfl,q2⟩,rfl⟩,fun dst ty pos af gd=>R.nc h1⟩
  ·refine ⟨_,h,fun W e eh oh hs=>?_⟩
   obtain ⟨v,h',h1,⟨vs,q1,rfl⟩,_⟩:=bY hs.env hx (by intro e;cases e)
   exact ⟨_,⟨⟨vs,q1,rfl⟩,rfl⟩,fun dst ty pos af gd=>R.ZK h1⟩
  ·cases h
 case makeFunc fn as bs=>
  refine lift ?_
  cases fn<;>first | (simp only [fF] at h;cases h;done) | skip
  simp only [fF] at h
  split at h
  case h_2=>cases h
  case h_1 la lb ha hb=>
  refine ⟨_,h,fun W e eh oh hs=>?_⟩
  obtain ⟨us,q1,q2⟩:=zg hs.env _ _ ha
  obtain ⟨vs,q3,q4⟩:=zg hs.env _ _ hb
  refine ⟨.func (.func _) us.toArray vs.toArray,⟨⟨us++vs,q2.append q4,?_⟩,rfl⟩,fun dst ty pos af gd=>R.Z4 q1 q3⟩
  rw [q2.length]
  simp
 case binOp op tx x y tyy=>
  refine lift ?_
  simp only [fF] at h
  split at h
  ·rename_i te t a hx
   split at h<;>first | cases h | skip
   rename_i te2 t2 el sz hl
   have ht:=((hc.ty _ _ hl).eb te2 t2 rfl).1
   refine ⟨_,h,fun W e eh oh hs=>⟨_,DR.bool,fun dst ty pos af gd=>?_⟩⟩
   obtain ⟨cs,g1,g2,_⟩:=bD hs.env hx
   obtain ⟨_,g2⟩:=g2
   cases a with
   | none=>have g2:cs=[.nilIface]:=g2;subst g2;exact R.Tu ht g1
   | some y=>obtain ⟨ad,cs',rfl,_⟩:=g2;exact R.Te ht g1
  ·rename_i te t a hx
   split at h<;>first | cases h | skip
   rename_i te2 t2 el sz hl
   have ht:=((hc.ty _ _ hl).eb te2 t2 rfl).1
   refine ⟨_,h,fun W e eh oh hs=>⟨_,DR.bool,fun dst ty pos af gd=>?_⟩⟩
   obtain ⟨cs,g1,g2,_⟩:=bD hs.env hx
   obtain ⟨_,g2⟩:=g2
   cases a with
   | none=>have g2:cs=[.nilIface]:=g2;subst g2;exact R.SY ht g1
   | some y=>obtain ⟨ad,cs',rfl,_⟩:=g2;exact R.SX ht g1
  ·rename_i a hx
   split at h<;>first | cases h | skip
   rename_i el sz hl
   have ht:=((hc.ty _ _ hl).er rfl).1
   refine ⟨_,h,fun W e eh oh hs=>⟨_,DR.bool,fun dst ty pos af gd=>?_⟩⟩
   obtain ⟨cs,g1,⟨⟨v,rfl,g2⟩,_⟩,_⟩:=bD hs.env hx
   cases a with
   | nil=>have g2:v= .nilIface:=g2;subst g2;exact R.Tu ht g1
   | nd t b l e0=>obtain ⟨p,_,_,rfl,_⟩:=g2;exact R.Te ht g1
  ·rename_i a hx
   split at h<;>first | cases h | skip
   rename_i el sz hl
   have ht:=((hc.ty _ _ hl).er rfl).1
   refine ⟨_,h,fun W e eh oh hs=>⟨_,DR.bool,fun dst ty pos af gd=>?_⟩⟩
   obtain ⟨cs,g1,⟨⟨v,rfl,g2⟩,_⟩,_⟩:=bD hs.env hx
   cases a with
   | nil=>have g2:v= .nilIface:=g2;subst g2;exact R.SY ht g1
   | nd t b l e0=>obtain ⟨p,_,_,rfl,_⟩:=g2;exact R.SX ht g1
  ·rename_i a hx
   split at h<;>first | cases h | skip
   rename_i t2 el sz hl
   have ht:=((hc.ty _ _ hl).ptr t2 rfl).1
   refine ⟨_,h,fun W e eh oh hs=>⟨_,DR.bool,fun dst ty pos af gd=>?_⟩⟩
   obtain ⟨cs,g1,⟨⟨p,rfl,rfl⟩,_⟩,_⟩:=bD hs.env hx
   cases p with
   | none=>exact R.LG ht g1
   | some y=>exact R.Kc ht g1
  ·rename_i a hx
   split at h<;>first | cases h | skip
   rename_i t2 el sz hl
   have ht:=((hc.ty _ _ hl).ptr t2 rfl).1
   refine ⟨_,h,fun W e eh oh hs=>⟨_,DR.bool,fun dst ty pos af gd=>?_⟩⟩
   obtain ⟨cs,g1,⟨⟨p,rfl,rfl⟩,_⟩,_⟩:=bD hs.env hx
   cases p with
   | none=>exact R.LJ ht g1
   | some y=>exact R.JZ ht g1
  ·rename_i t a hx
   split at h<;>first | (cases h;done) | skip
   ·rename_i t2 el sz hl
    have ht:=((hc.ty _ _ hl).ptr t2 rfl).1
    refine ⟨_,h,fun W e eh oh hs=>⟨_,DR.bool,fun dst ty pos af gd=>?_⟩⟩
    obtain ⟨cs,g1,g2,_⟩:=bD hs.env hx
    obtain ⟨_,g2⟩:=g2
    cases a with
    | none=>have g2:cs=[.pointer none]:=g2;subst g2;exact R.LG ht g1
    | some y=>obtain ⟨ad,cs',rfl,_⟩:=g2;exact R.Kc ht g1
   ·rename_i t2 el sz hl
    have ht:=((hc.ty _ _ hl).opt t2 rfl).1
    refine ⟨_,h,fun W e eh oh hs=>⟨_,DR.bool,fun dst ty pos af gd=>?_⟩⟩
    obtain ⟨cs,g1,g2,_⟩:=bD hs.env hx
    obtain ⟨_,g2⟩:=g2
    cases a with
    | none=>have g2:cs=[.pointer none]:=g2;subst g2;exact R.LG ht g1
    | some y=>obtain ⟨ad,cs',rfl,_⟩:=g2;exact R.Kc ht g1
  ·rename_i t a hx
   split at h<;>first | (cases h;done) | skip
   ·rename_i t2 el sz hl
    have ht:=((hc.ty _ _ hl).ptr t2 rfl).1
    refine ⟨_,h,fun W e eh oh hs=>⟨_,DR.bool,fun dst ty pos af gd=>?_⟩⟩
    obtain ⟨cs,g1,g2,_⟩:=bD hs.env hx
    obtain ⟨_,g2⟩:=g2
    cases a with
    | none=>have g2:cs=[.pointer none]:=g2;subst g2;exact R.LJ ht g1
    | some y=>obtain ⟨ad,cs',rfl,_⟩:=g2;exact R.JZ ht g1
   ·rename_i t2 el sz hl
    have ht:=((hc.ty _ _ hl).opt t2 rfl).1
    refine ⟨_,h,fun W e eh oh hs=>⟨_,DR.bool,fun dst ty pos af gd=>?_⟩⟩
    obtain ⟨cs,g1,g2,_⟩:=bD hs.env hx
    obtain ⟨_,g2⟩:=g2
    cases a with
    | none=>have g2:cs=[.pointer none]:=g2;subst g2;exact R.LJ ht g1
    | some y=>obtain ⟨ad,cs',rfl,_⟩:=g2;exact R.JZ ht g1
  ·rename_i m _ _ _ hx
   split at h<;>first | cases h | skip
   rename_i t2 el sz hl
   have ht:=((hc.ty _ _ hl).ptr t2 rfl).1
   refine ⟨_,h,fun W e eh oh hs=>⟨_,DR.bool,fun dst ty pos af gd=>?_⟩⟩
   obtain ⟨v,_,g1,rfl,_⟩:=bY hs.env hx (by intro e;cases e)
   cases m with
   | none=>exact R.LG ht g1
   | some n=>exact R.Kc ht g1
  ·rename_i m _ _ _ hx
   split at h<;>first | cases h | skip
   rename_i t2 el sz hl
   have ht:=((hc.ty _ _ hl).ptr t2 rfl).1
   refine ⟨_,h,fun W e eh oh hs=>⟨_,DR.bool,fun dst ty pos af gd=>?_⟩⟩
   obtain ⟨v,_,g1,rfl,_⟩:=bY hs.env hx (by intro e;cases e)
   cases m with
   | none=>exact R.LJ ht g1
   | some n=>exact R.JZ ht g1
  ·rename_i hx
   split at h<;>first | cases h | skip
   rename_i t2 el sz hl
   have ht:=((hc.ty _ _ hl).ptr t2 rfl).1
   exact ⟨_,h,fun W e eh oh hs=>⟨_,DR.bool,fun dst ty pos af gd=>R.Kc ht (bI hs.env hx)⟩⟩
  ·rename_i hx
   split at h<;>first | cases h | skip
   rename_i t2 el sz hl
   have ht:=((hc.ty _ _ hl).ptr t2 rfl).1
   exact ⟨_,h,fun W e eh oh hs=>⟨_,DR.bool,fun dst ty pos af gd=>R.JZ ht (bI hs.env hx)⟩⟩
  ·rename_i hx
   split at h<;>first | cases h | skip
   rename_i t2 el sz hl
   have ht:=((hc.ty _ _ hl).sl t2 rfl).1
   refine ⟨_,h,fun W e eh oh hs=>?_⟩
   obtain ⟨cs0,h1,⟨A,cc,css,rfl,_,_,_,q5,_⟩,_⟩:=bD hs.env hx
   refine ⟨_,DR.bool,fun dst ty pos af gd=>?_⟩
   rw [q5]
   exact R.slnil ht h1
  ·rename_i hx
   split at h<;>first | cases h | skip
   rename_i t2 el sz hl
   have ht:=((hc.ty _ _ hl).ptr t2 rfl).1
   refine ⟨_,h,fun W e eh oh hs=>?_⟩
   obtain ⟨v,h',h1,ad,cs,rfl,q1,q2,_⟩:=bY hs.env hx (by intro e;cases e)
   exact ⟨_,DR.bool,fun dst ty pos af gd=>R.Kc ht h1⟩
  ·rename_i hx
   split at h<;>first | cases h | skip
   rename_i t2 el sz hl
   have ht:=((hc.ty _ _ hl).ptr t2 rfl).1
   refine ⟨_,h,fun W e eh oh hs=>?_⟩
   obtain ⟨v,h',h1,ad,cs,rfl,q1,q2,_⟩:=bY hs.env hx (by intro e;cases e)
   exact ⟨_,DR.bool,fun dst ty pos af gd=>R.JZ ht h1⟩
  ·rename_i hx
   split at h<;>first | cases h | skip
   rename_i t2 el sz hl
   have ht:=((hc.ty _ _ hl).ptr t2 rfl).1
   refine ⟨_,h,fun W e eh oh hs=>?_⟩
   obtain ⟨cs0,h1,⟨ad,cs,rfl,q1,q2,_⟩,_⟩:=bD hs.env hx
   exact ⟨_,DR.bool,fun dst ty pos af gd=>R.Kc ht h1⟩
  ·rename_i hx
   split at h<;>first | cases h | skip
   rename_i t2 el sz hl
   have ht:=((hc.ty _ _ hl).ptr t2 rfl).1
   refine ⟨_,h,fun W e eh oh hs=>?_⟩
   obtain ⟨cs0,h1,⟨ad,cs,rfl,q1,q2,_⟩,_⟩:=bD hs.env hx
   exact ⟨_,DR.bool,fun dst ty pos af gd=>R.JZ ht h1⟩
  ·rename_i t a hx
   obtain ⟨b,hb,h⟩:=Option.bind_eq_some_iff.1 h
   exact ⟨_,h,fun W e eh oh hs=>⟨_,DR.bool,fun dst ty pos af gd=>(Lr hc hx hb W e eh oh hs dst ty pos af gd tyy).1⟩⟩
  ·rename_i t a hx
   obtain ⟨b,hb,h⟩:=Option.bind_eq_some_iff.1 h
   exact ⟨_,h,fun W e eh oh hs=>⟨_,DR.bool,fun dst ty pos af gd=>(Lr hc hx hb W e eh oh hs dst ty pos af gd tyy).2⟩⟩
  ·exact Q6 (fun hb=>by obtain ⟨i,hi,ho⟩:=iU hc.ty hb;exact ho.bool hi) h
 case unOp op tx x=>exact lift (Uk (by simpa only [fF] using h))
 case convert s t x=>exact lift (Ki hc h)
 case load t a=>exact lift (PX hc.ty (by simpa only [fF] using h))
 case build t ps=>exact lift (Pn hc h)
 case slice tx x lo hi mx=>
  refine lift ?_
  simp only [fF] at h
  split at h
  ·exact Na hc.ty h
  ·exact Np hc.ty h
 case fieldAddr s x f=>exact lift (F_ hc h)
 case field s x f=>exact lift (O1 hc h)
 case indexAddr tx x i=>exact lift (Gu hc h)
 case index tx x i=>exact lift (OP hc h)
 case extract x i=>exact lift (JP h)
 case makeInterface t x=>exact lift (Qb hc h)
 case typeAssert x xt a b=>exact lift (Ot hc h)
 case call cl=>
  obtain ⟨callee,args,og⟩:=cl
  cases callee with
  | builtin b=>
   refine lift ?_
   cases b<;>first | (simp only [fF] at h;cases h;done) | skip
   case len=>
    simp only [fF] at h
    split at h<;>first | cases h | skip
    rename_i x t h1 h2
    exact Su hc.ty h1 h2 h
   case max=>exact EN (.inl rfl) h
   case min=>exact EN (.inr rfl) h
  | invoke x m=>simp only [fF] at h;cases h
  | value f=>cases hq
theorem FQ {o:Op} (h:fF c o S kk=some r): ∃ d,kk d=some r∧VB P N C G S o d:=by
 cases hq:Cm o with
 | true=>obtain ⟨d,h1,h2⟩:=K9 hc hq h;exact ⟨d,h1,h2.ZZ⟩
 | false=>
 cases o<;>first | (cases hq;done) | skip
 case call cl=>
  obtain ⟨callee,args,og⟩:=cl
  cases callee with
  | builtin b=>cases hq
  | invoke x m=>cases hq
  | value f=>
   simp only [fF] at h
   split at h<;>first | cases h | skip
   rename_i fn hf
   split at h
   case h_2=>
    split at h
    case h_2=>cases h
    case h_1 i hi=>
    cases hfl:i.t.flat with
    | false=>rw [hfl] at h;cases h
    | true=>
     rw [hfl] at h
     simp only [cond_true] at h
     exact Ms hc rfl hf hi h
   rename_i en hen
   cases hp:en.plain with
   | false=>rw [hp] at h;cases h
   | true=>
    rw [hp] at h
    simp only [cond_true] at h
    split at h
    ·rename_i z hz
     obtain ⟨q,hq,h⟩:=Option.bind_eq_some_iff.1 h
     exact ⟨_,h,Gs hc rfl hf hen hp hz hq⟩
    ·cases h
end
end Go.Lf
/-
  Operations that turn more than their slot.
-/
namespace Go.Lf
open Go Go.iM
section
variable (P:Program) (N:Nat) (C:Cx) (G:World→Prop)
def At (S:St) (a:Act) (w:World):Prop:= ∃ W e eh oh,aZ S W e eh oh∧Fr a N e∧Hb C w (eh++oh) (Inv G W.φ)
def gD (o:Oper) (S':St) (a:Act) (w:World):Prop:=match (execOp a.eval o).run P w with
 | .ok (.value v) w'=>At N C G S' (a.put o.dst v) w'
 | .ok .skip w'=>At N C G S' (a.put o.dst undef) w'
 | .ok (.enter f args) w'=>Calls P f args w' fun x w''=> ∃ v,x= .returned v∧At N C G S' (a.put o.dst v) w''
 | _=>False
end
section
variable {P:Program} {N:Nat} {C:Cx} {G:World→Prop} {c:Ctx} {S:St} {Rt:Type} {k:St→Option Rt} {r:Rt} {a:Act} {w:World}
variable {W:d_} {e:Env} {eh oh:List Chunk}
theorem At.put (hs:aZ S W e eh oh) (hf:Fr a N e) {h:List Chunk} (hb:Hb C w (h++(eh++oh)) (Inv G W.φ)) {d:Nat} {D':D} {v:Value} (hd:DR W D' v h) (hN:d<N):At N C G (S.put d D') (a.put (some d) v) w:=by
 obtain ⟨hs',h1,h2⟩:=hs.env.put (k:=d) hd
 refine ⟨W,aQ e d v,hs',oh,⟨h1,hs.l9,hs.nd⟩,Ch hf hN,?_⟩
 rw [← List.append_assoc] at hb
 exact (Sub.app h2 (Sub.refl oh)).hb hb
theorem j_ {d n:Nat} (h:Nat.blt d n=true):d<n:=by simpa [Nat.blt_eq] using h
theorem Pk (hn:c.n=N) {o:Oper} {d:D} (h:out c o S d k=some r) (hp:VB P N C G S o.op d): ∃ S',k S'=some r∧ ∀ a w,At N C G S a w→gD P N C G o S' a w:=by
 unfold out at h
 have key: ∀ S',(∀ W e eh oh v,aZ S W e eh oh→DR W d v []→ ∀ a w,Fr a N e→Hb C w (eh++oh) (Inv G W.φ)→At N C G S' (a.put o.dst v) w)→ ∀ a w,At N C G S a w→gD P N C G o S' a w:=by
  intro S' hS a w ⟨W,e,eh,oh,hs,hf,hb⟩
  obtain ⟨v,h1,h2⟩:=hp W e eh oh hs
  have h3:=h2 o.dst o.type o.pos o.after o.guard a w hf hb
  unfold gD
  generalize (execOp a.eval o).run P w=x at h3
  cases x with
  | halt x w2=>exact h3.elim
  | ok x w2=>
   cases x<;>first | exact h3.elim | skip
   ·obtain ⟨rfl,h4⟩:=h3
    exact hS W e eh oh _ hs h1 a w2 hf h4
   ·exact Calls.mono h3 fun y w3 hy=>by
     obtain ⟨rfl,h4⟩:=hy
     exact ⟨v,rfl,hS W e eh oh _ hs h1 a w3 hf h4⟩
 split at h
 ·rename_i dst hd
  cases hb:Nat.blt dst c.n with
  | false=>rw [hb] at h;cases h
  | true=>
   rw [hb] at h
   refine ⟨_,h,key _ fun W e eh oh v hs h1 a w hf hb2=>?_⟩
   rw [hd]
   exact At.put hs hf (by simpa using hb2) h1 (hn▸j_ hb)
 ·rename_i hd
  refine ⟨_,h,key _ fun W e eh oh v hs h1 a w hf hb2=>?_⟩
  rw [hd]
  exact ⟨W,e,eh,oh,hs,hf,hb2⟩
theorem vY {W:d_} {d:D} {v:Value} {h:List Chunk} (hd:DR W d v h):DR W d.j5 v []:=by
 by_cases he:d.j5= .und
 ·rw [he];rfl
 ·exact IJ hd he
theorem ay.strip {l:List (Nat×D)} {hs:List Chunk} (h:ay W l e hs) {k:Nat} {d:D} (hk:Lf.look l k=some d):
  ∃ v h1 eh',rW e k v∧DR W d v h1∧ay W (aQ l k d.j5) e eh'∧Sub hs (h1++eh'):=by
 induction h with
 | nil=>cases hk
 | @cons k' d' v h hs l e h1 h2 ih=>
  rw [au] at hk
  split at hk
  ·rename_i hkk
   subst hkk
   simp only [Option.some.injEq] at hk
   subst hk
   refine ⟨v,h,[]++hs, .here,h1,?_,by simpa using Sub.refl _⟩
   rw [aJ,if_pos rfl]
   exact .cons (vY h1) h2
  ·rename_i hkk
   obtain ⟨v',h3,eh',q1,q2,q4,q5⟩:=ih hk
   refine ⟨v',h3,h++eh', .there q1,q2,?_,?_⟩
   ·rw [aJ,if_neg hkk]
    exact .cons h1 q4
   ·refine (Sub.app (Sub.refl h) q5).trans (Sub.perm ?_)
    rw [← List.append_assoc, ← List.append_assoc]
    exact List.perm_append_comm.append_right eh'
theorem dn (hs:aZ S W e eh oh) {x:Operand} {d:D} (hx:S.raw x=d) (hne:d≠ .und):
  ∃ v h eh',EV e x v∧DR W d v h∧aZ (S.strip x) W e eh' oh∧Sub eh (h++eh'):=by
 cases x with
 | tmp s=>
  cases hl:look S.env s with
  | none=>simp only [St.raw,hl] at hx;exact absurd hx.symm hne
  | some d'=>
   have hx:d'=d:=by simpa only [St.raw,hl] using hx
   subst hx
   have e1:S.strip (.tmp s)=S.put s d'.j5:=by simp only [St.strip,hl]
   rw [e1]
   obtain ⟨v,h1,eh',q1,q2,q4,q5⟩:=hs.env.strip hl
   exact ⟨v,h1,eh', .t q1,q2,⟨q4,hs.l9,hs.nd⟩,q5⟩
 | const v=>
  have hx':uh v=d:=hx
  have h1:=zL (W:=W) v (by rw [hx'];exact hne)
  rw [hx'] at h1
  exact ⟨v,[],eh, .c,h1,hs,by simpa using Sub.refl _⟩
 | global g=>exact absurd hx.symm hne
 | func f=>
  have hx':D.fn f=d:=hx
  subst hx'
  exact ⟨_,[],eh, .f,⟨rfl,rfl⟩,hs,by simpa using Sub.refl _⟩
theorem dz (hn:c.n=N) {o:Oper} {S1:St} {D':D} (h:out c o S1 D' k=some r): ∃ S',k S'=some r∧ ∀ W e eh oh v hh a w,aZ S1 W e eh oh→DR W D' v hh→Fr a N e→Hb C w (hh++(eh++oh)) (Inv G W.φ)→At N C G S' (a.put o.dst v) w:=by
 unfold out at h
 split at h
 ·rename_i dst hd
  cases hb:Nat.blt dst c.n with
  | false=>rw [hb] at h;cases h
  | true=>
   rw [hb] at h
   refine ⟨_,h,fun W e eh oh v hh a w hs h1 hf hb2=>?_⟩
   rw [hd]
   exact At.put hs hf hb2 h1 (hn▸j_ hb)
 ·rename_i hd
  refine ⟨_,h,fun W e eh oh v hh a w hs h1 hf hb2=>?_⟩
  rw [hd]
  exact ⟨W,e,eh,oh,hs,hf,Sub.right.hb hb2⟩
def upd {α:Type} (f:Nat→α) (j:Nat) (x:α):Nat→α:=fun i=>if i=j then x else f i
theorem xM {α:Type} {l:List (Nat×α)} {j:Nat} (h:look l j=none):j∉l.map (·.1):=by
 induction l with
 | nil=>simp
 | cons p q ih=>
  obtain ⟨k,v⟩:=p
  rw [au] at h
  split at h
  ·cases h
  ·rename_i hne
   simp only [List.map_cons,List.mem_cons,not_or]
   exact ⟨fun e=>hne e.symm,ih h⟩
theorem Oi {d:D} {j:Nat} (h:d.hits j=false): ¬ xD d j:=by
 have key: ∀ i,Nat.beq j i=false→ ¬ j=i:=fun i hb e=>by rw [e,Nat.beq_refl] at hb;cases hb
 cases d<;>first | exact key _ h | exact id | skip
 rename_i g n l
 rintro ⟨p,hp,he⟩
 have h:(l.any fun p=>Nat.beq j p.2.1)=false:=h
 rw [List.any_eq_false] at h
 exact h p hp (by rw [he];exact Nat.beq_refl _)
theorem DR.upd {d:D} {v:Value} {h:List Chunk} {j g:Nat} {cs:List Value} (hd:DR W d v h) (hj: ¬ xD d j):DR ⟨W.φ,Lf.upd W.aA j g,Lf.upd W.hd j cs⟩ d v h:=by
 cases d with
 | ref i p o=>
  have:i≠j:=fun e=>hj e.symm
  obtain ⟨h1,h2⟩:=hd
  exact ⟨by rw [h1];simp [Lf.upd,this],h2⟩
 | bO i p o=>
  have:i≠j:=fun e=>hj e.symm
  obtain ⟨h1,h2⟩:=hd
  exact ⟨by simpa [Lf.upd,this] using h1,h2⟩
 | xZ i p o n z q qo=>
  have:i≠j:=fun e=>hj e.symm
  obtain ⟨A,m,cc,h1,h2⟩:=hd
  exact ⟨A,m,cc,by simpa [Lf.upd,this] using h1,h2⟩
 | xV i p o n z q qo=>
  have:i≠j:=fun e=>hj e.symm
  obtain ⟨h1,h2⟩:=hd
  exact ⟨by rw [h1];simp [Lf.upd,this],h2⟩
 | NQ i p o k n=>
  have:i≠j:=fun e=>hj e.symm
  obtain ⟨⟨h0,h1⟩,h2⟩:=hd
  exact ⟨⟨h0,by rw [h1];simp [Lf.upd,this]⟩,h2⟩
 | MK te i p o=>
  have:i≠j:=fun e=>hj e.symm
  obtain ⟨h1,h2⟩:=hd
  exact ⟨by rw [h1];simp [Lf.upd,this],h2⟩
 | sJ i p o=>
  have:i≠j:=fun e=>hj e.symm
  obtain ⟨⟨c,h1,h2⟩,h3⟩:=hd
  exact ⟨⟨c,h1,by rw [h2];simp [Lf.upd,this]⟩,h3⟩
 | zR g n l=>
  obtain ⟨⟨vs,h1,h2⟩,h3⟩:=hd
  refine ⟨⟨vs,zk.all h1 (bL.le_refl _) fun p hp=>?_,h2⟩,h3⟩
  have:p.2.1≠j:=fun e=>hj ⟨p,hp,e.symm⟩
  simp [Lf.upd,this]
 | _=>exact hd
theorem ay.oZ {l:List (Nat×D)} {hs:List Chunk} (h:ay W l e hs) (j g:Nat) (cs:List Value):ay ⟨W.φ,Lf.upd W.aA j g,Lf.upd W.hd j cs⟩ (Lf.oZ j l) e hs:=by
 induction h with
 | nil=>exact .nil
 | @cons k d v h hs l e h1 h2 ih=>
  show ay _ ((k,bif d.hits j then .und else d)::Lf.oZ j l) _ _
  cases hb:d.hits j with
  | false=>exact .cons (h1.upd (Oi hb)) ih
  | true=>
   refine .cons (show DR _ .und v h from ?_) ih
   cases d<;>first | cases hb | exact h1.2 | skip
   obtain ⟨A,m,cc,_,_,h3⟩:=h1
   exact h3
theorem nO.other {l:List (Nat×Ob)} {hs:List Chunk} (h:nO W l hs) {j:Nat} (hj:j∉l.map (·.1)) (g:Nat) (cs:List Value):nO ⟨W.φ,Lf.upd W.aA j g,Lf.upd W.hd j cs⟩ l hs:=by
 induction h with
 | nil=>exact .nil
 | @cons i ob h hs l h1 h2 ih=>
  simp only [List.map_cons,List.mem_cons,not_or] at hj
  refine .cons ?_ (ih hj.2)
  obtain ⟨h0,q1,q2⟩:=h1
  have:i≠j:=fun e=>hj.1 e.symm
  exact ⟨h0,by simpa [Lf.upd,this] using q1,by simpa [Lf.upd,this] using q2⟩
theorem Ce (hn:c.n=N) {d:Nat} {ob:Ob} {x:D} {S1:St} (h:xw c d ob x S1 k=some r):
  ∃ S',k S'=some r∧ ∀ W e eh oh g cs h0 v a w,aZ S1 W e eh oh→Rp W.φ ob.t ob.x cs h0→Fr a N e→(DR ⟨W.φ,upd W.aA d g,upd W.hd d cs⟩ x v [])→
   Hb C w ((match ob.tid with | some tid=>blk g tid cs::h0 | none=>h0)++(eh++oh)) (Inv G W.φ)→At N C G S' (a.put (some d) v) w:=by
 unfold xw at h
 split at h
 ·rename_i hl
  cases hb:Nat.blt d c.n with
  | false=>rw [hb] at h;cases h
  | true=>
   rw [hb] at h
   refine ⟨_,h,fun W e eh oh g cs h0 v a w hs hr hf hd hb2=>?_⟩
   obtain ⟨hs',h1,h2⟩:=(hs.env.oZ d g cs).put (k:=d) hd
   refine ⟨⟨W.φ,upd W.aA d g,upd W.hd d cs⟩,aQ e d v,hs',_,⟨h1,nO.cons (h:=match ob.tid with | some tid=>blk g tid cs::h0 | none=>h0) ⟨h0,?_,?_⟩ (hs.l9.other (xM hl) g cs),?_⟩,Ch hf (hn▸j_ hb),?_⟩
   ·simpa [upd] using hr
   ·have e1:upd W.aA d g d=g:=by simp [upd]
    have e2:upd W.hd d cs d=cs:=by simp [upd]
    simp only [e1,e2]
    cases ob.tid<;>rfl
   ·simp only [List.map_cons,List.nodup_cons]
    exact ⟨xM hl,hs.nd⟩
   ·refine (Sub.perm (b:=eh++((match ob.tid with | some tid=>blk g tid cs::h0 | none=>h0)++oh)) ?_ |>.trans (Sub.app (by simpa using h2) (Sub.refl _))).hb hb2
    rw [← List.append_assoc, ← List.append_assoc]
    exact List.perm_append_comm.append_right oh
 ·cases h
end
end Go.Lf
/-
  Memory: what is frozen; rows that grow; stores.
-/
namespace Go.Lf
open Go Go.iM
section
variable {P:Program} {N:Nat} {C:Cx} {G:World→Prop} {w:World}
theorem Co {φ:bL} {hs:List Chunk} {ad:Addr} {xs:List Value} (hb:Hb C w hs (Inv G φ)) (hx:J3 C.av hs w (fun w'=> ∀ j u,xs[j]? =some u→w'.cell? (ad.add j)=some u)):
  ∃ φ',φ.le φ'∧kE φ' ad xs∧Hb C w hs (Inv G φ'):=by
 classical
 let φ':bL:=⟨fun a=>if ∃ j,j<xs.length∧a=ad.add j then w.cell? a else φ a,φ.b⟩
 have hin: ∀ j,j<xs.length→φ' (ad.add j)=w.cell? (ad.add j):=fun j hj=>if_pos ⟨j,hj,rfl⟩
 refine ⟨φ',⟨fun a v hv=>?_,fun _ h=>h⟩,fun j v hv=>?_,⟨hb.hp,fun w' x=>?_⟩⟩
 ·by_cases h: ∃ j,j<xs.length∧a=ad.add j
  ·show (if _ then _ else _)=_
   rw [if_pos h];exact hb.get.2 a v hv
  ·show (if _ then _ else _)=_
   rw [if_neg h];exact hv
 ·rw [hin j (List.getElem?_eq_some_iff.1 hv).1]
  exact hx.get j v hv
 ·refine ⟨(hb.box w' x).1,fun a v hv=>?_,(hb.box w' x).2.blk⟩
  by_cases h: ∃ j,j<xs.length∧a=ad.add j
  ·have hv':w.cell? a=some v:=by
    have:φ' a=w.cell? a:=if_pos h
    rw [← this];exact hv
   obtain ⟨j,hj,rfl⟩:=h
   have h1:=hx.get j _ (List.getElem?_eq_getElem hj)
   rw [hv'] at h1
   rw [hx w' x j _ (List.getElem?_eq_getElem hj), ← h1]
  ·have hv':φ a=some v:=by
    have:φ' a=φ a:=if_neg h
    rw [← this];exact hv
   exact (hb.box w' x).2 a v hv'
theorem Aa {φ:bL} {A:Option Addr} {c el size n:Nat} {xs:List Value} {rest:List Chunk} (_hs0:0<size) (hb:Hb C w (.row true (.slice A n c) el size n xs::rest) (Inv G φ)):
  ∃ φ',φ.le φ'∧nD φ' A n xs∧Hb C w (.row true (.slice A n c) el size n xs::rest) (Inv G φ'):=by
 have hown:w.ownsRow 0 el size (.slice A n c) n xs:=hb.hp.hold _ List.mem_cons_self
 rcases hown.2 with ⟨hv,hn⟩ | ⟨g,cap,cur,hv,_⟩
 ·exact ⟨φ,φ.le_refl,fun h=>absurd h (by omega),hb⟩
 ·injection hv with hA
  subst hA
  obtain ⟨φ',h1,h2,h3⟩:=Co hb (hb.Sr (g:=g) List.mem_cons_self rfl)
  exact ⟨φ',h1,fun _=>⟨_,rfl,h2⟩,h3⟩
theorem tX {φ:bL} {p:Bool} {A:Option Addr} {c el size n:Nat} {xs:List Value} {rest:List Chunk} (hb:Hb C w (.row p (.slice A n c) el size n xs::rest) (Inv G φ)):
  ∃ φ',φ.le φ'∧nD φ' A n xs∧Hb C w rest (Inv G φ'):=by
 have hown:w.ownsRow 0 el size (.slice A n c) n xs:=hb.hp.hold _ List.mem_cons_self
 have hb1:Hb C w rest (fun w'=>Inv G φ w'∧w'.ownsRow 0 el size (.slice A n c) n xs):=Hb.weak (ds:=[_]) hb fun w' h1 h2=>⟨h1,h2 _ List.mem_cons_self⟩
 rcases hown.2 with ⟨hv,hn⟩ | ⟨g,cap,cur,hv,_⟩
 ·exact ⟨φ,φ.le_refl,fun h=>absurd h (by omega),hb1.imp fun _ h=>h.1⟩
 ·injection hv with hA
  subst hA
  obtain ⟨φ',h1,h2,h3⟩:=Co (hb1.imp fun _ h=>h.1) (hb1.box.imp fun w' h=>h.2.cells (g:=g) rfl)
  exact ⟨φ',h1,fun _=>⟨_,rfl,h2⟩,h3⟩
theorem uo {φ:bL} {g tid:Nat} {cs:List Value} {rest:List Chunk} (hb:Hb C w (blk g tid cs::rest) (Inv G φ)):
  ∃ φ',φ.le φ'∧kE φ' ⟨g,0,none⟩ cs∧Hb C w rest (Inv G φ'):=by
 have hb1:Hb C w rest (fun w'=>Inv G φ w'∧(blk g tid cs).holds w'):=Hb.weak (ds:=[_]) hb fun w' h1 h2=>⟨h1,h2 _ List.mem_cons_self⟩
 refine Co (hb1.imp fun _ h=>h.1) (hb1.box.imp fun w' h j u hu=>?_)
 have h1:=rT h.2 hu
 unfold Addr.add
 split
 ·rename_i hj;subst hj;exact h1
 ·simpa using h1
theorem Ju {φ:bL} {g tid:Nat} {cs:List Value} {rest:List Chunk} (hb:Hb C w (blk g tid cs::rest) (Inv G φ)):
  ∃ φ',φ.le φ'∧(kE φ' ⟨g,0,none⟩ cs∧φ'.b g)∧Hb C w rest (Inv G φ'):=by
 have hb1:Hb C w rest (fun w'=>Inv G φ w'∧(blk g tid cs).holds w'):=Hb.weak (ds:=[_]) hb fun w' h1 h2=>⟨h1,h2 _ List.mem_cons_self⟩
 have hb2:Hb C w rest (Inv (fun w'=>G w'∧(blk g tid cs).holds w') φ):=hb1.imp fun _ h=>⟨⟨h.1.1,h.2⟩,h.1.2⟩
 obtain ⟨φ1,h1,h2,h3⟩:=Co (ad:=⟨g,0,none⟩) (xs:=cs) hb2 (hb1.box.imp fun w' h j u hu=>by
  have h1:=rT h.2 hu
  unfold Addr.add
  split
  ·rename_i hj;subst hj;exact h1
  ·simpa using h1)
 refine ⟨⟨φ1.c,fun g'=>φ1.b g'∨g'=g⟩,⟨h1.cell,fun g' hg=> .inl (h1.blk g' hg)⟩,⟨h2, .inr rfl⟩,h3.imp fun w' h=>⟨h.1.1,h.2.cell,fun g' hg=>?_⟩⟩
 rcases hg with hg | rfl
 ·exact h.2.blk g' hg
 ·exact ⟨_,_,h.1.2⟩
theorem BI {t tx ty el size bytes:Nat} {A:Option Addr} {n m:Nat} {xs news:List Value} {x:Value} (ht:Ff P t el size bytes) (hl:xs.length=n*size) (hr:0<n→ ∃ ad,A=some ad∧ ∀ j u,xs[j]? =some u→w.cell? (ad.add j)=some u) (hs:Src P size tx x m news w)
  (hm:0<m) (hbytes:(n+m)*bytes≤140737488355328) (hby:0<bytes):
  ∃ A' c' w',(Builtin.append_ #[t,tx] ty #[.slice A n n,x]).run P w= .ok (.slice A' (n+m) c') w'∧w'.ownsRow 0 el size (.slice A' (n+m) c') (n+m) (xs++news)∧Ext (fun _=>none) [.row true (.slice none 0 0) el size 0 []] w w'∧
   (∀ g,(Value.slice A' (n+m) c').ownBlock=some g→w.heap.size≤g):=by
 obtain ⟨i,z,h2,h3,h4,rfl,rfl,h7,h8⟩:=ht
 have hnm:n+m≤140737488355328:=Nat.le_trans (Nat.le_mul_of_pos_right _ hby) hbytes
 have hmax:n+m≤maxLen:=by unfold maxLen;omega
 have hlen:(xs++news).length=(n+m)*i.size:=by rw [List.length_append,hl,hs.newsLen,Nat.add_mul]
 have hg0:n<n+m:=by omega
 have hold:(Builtin.firstCells i.size n (.slice A n n)).run P w.drew= .ok xs.toArray w.drew:=by
  rcases Nat.eq_zero_or_pos n with h0 | h0
  ·subst h0
   have hx0:xs=[]:=List.eq_nil_of_length_eq_zero (by simpa using hl)
   subst hx0
   cases A with
   | none=>exact run_firstCells_none w.drew i.size 0 0 0
   | some ad=>exact run_firstCells_some w.drew i.size 0 ad 0 0 [] (by simp) (fun j v hv=>by simp at hv)
  ·obtain ⟨ad,rfl,hc⟩:=hr h0
   exact run_firstCells_some w.drew i.size n ad n n xs hl (by simpa using hc)
 have hrun:=run_append_grow_src (P:=P) w t tx ty el i z h2 h3 h4 A n n xs hold x m news hs hg0 (by omega) (growslice_fits hg0 hbytes)
 have hge:=grownCap_ge w (n+m) n el
 have hcm:=grownCap_le_maxLen w (n+m) n el hmax
 have hk: ∀ k,k<w.heap.size→(w.drew.alloc (.cells ((xs++news).toArray++Builtin.zeroCells z.cells (grownCap w (n+m) n el - (n+m))) el)).heap[k]? =w.heap[k]? :=fun k hk=>heap_alloc_old w.drew _ hk
 refine ⟨_,_,_,hrun,⟨hlen, .inr ⟨w.heap.size,_,_,rfl,Nat.zero_le _,heap_alloc_new w.drew _,hge,hcm,?_,?_⟩⟩,⟨rfl,rfl,rfl,by simp,fun k h _ _=>hk k h,fun k _ h _ _=>Same.of_block (hk k h),fun _ _ k _ h=>Same.of_block (hk k h)⟩,fun g hg=>by simp only [Value.ownBlock,Option.some.injEq] at hg;omega⟩
 ·rw [Array.size_append,size_zeroCells,h7]
  have:(xs++news).toArray.size=(n+m)*i.size:=by simpa using hlen
  rw [this, ← Nat.add_mul]
  congr 1
  omega
 ·rw [Array.toList_append]
  rw [show (xs++news).toArray.toList=xs++news from rfl, ← hlen]
  exact List.take_left
theorem C_ {t tx ty el size bytes:Nat} {A:Option Addr} {n c m:Nat} {xs news:List Value} {x:Value} {p:Bool} (ht:Ff P t el size bytes) (hh:w.ownsRow 0 el size (.slice A n c) n xs) (hs:Src P size tx x m news w)
  (hbytes:(n+m)*bytes≤140737488355328) (hby:0<bytes):
  ∃ A' c' w',(Builtin.append_ #[t,tx] ty #[.slice A n c,x]).run P w= .ok (.slice A' (n+m) c') w'∧w'.ownsRow 0 el size (.slice A' (n+m) c') (n+m) (xs++news)∧Ext (fun _=>none) [.row p (.slice A n c) el size n xs] w w'∧
   (∀ g,(Value.slice A' (n+m) c').ownBlock=some g→(Value.slice A n c).ownBlock=some g∨w.heap.size≤g):=by
 obtain ⟨i,z,h2,h3,h4,rfl,rfl,h7,h8⟩:=ht
 have hnm:n+m≤140737488355328:=Nat.le_trans (Nat.le_mul_of_pos_right _ hby) hbytes
 have hmax:n+m≤maxLen:=by unfold maxLen;omega
 have hlen:(xs++news).length=(n+m)*i.size:=by rw [List.length_append,hh.1,hs.newsLen,Nat.add_mul]
 have fresh: ∀ cap,c<n+m→n+m≤cap→cap≤maxLen→ ∀ r:Result Value,True→
   (w.drew.alloc (.cells ((xs++news).toArray++Builtin.zeroCells z.cells (cap - (n+m))) el)).ownsRow 0 el i.size (.slice (some ⟨w.heap.size,0,none⟩) (n+m) cap) (n+m) (xs++news)∧
   Ext (fun _=>none) [.row p (.slice A n c) el i.size n xs] w (w.drew.alloc (.cells ((xs++news).toArray++Builtin.zeroCells z.cells (cap - (n+m))) el)):=by
  intro cap _ h9 h10 _ _
  have hold: ∀ k,k<w.heap.size→(w.drew.alloc (.cells ((xs++news).toArray++Builtin.zeroCells z.cells (cap - (n+m))) el)).heap[k]? =w.heap[k]? :=fun k hk=>heap_alloc_old w.drew _ hk
  refine ⟨⟨hlen, .inr ⟨w.heap.size,cap,_,rfl,Nat.zero_le _,heap_alloc_new w.drew _,h9,h10,?_,?_⟩⟩,⟨rfl,rfl,rfl,by simp,fun k hk _ _=>hold k hk,fun k _ hk _ _=>Same.of_block (hold k hk),fun _ _ k _ hk=>Same.of_block (hold k hk)⟩⟩
  ·rw [Array.size_append,size_zeroCells,h7]
   have:(xs++news).toArray.size=(n+m)*i.size:=by simpa using hlen
   rw [this, ← Nat.add_mul]
   congr 1
   omega
  ·rw [Array.toList_append]
   rw [show (xs++news).toArray.toList=xs++news from rfl, ← hlen]
   exact List.take_left
 by_cases hroom:n+m≤c
 ·-- there is room
  rcases hh.2 with ⟨hv,hn0⟩ | ⟨g,cap,cur,hv,_,hg,hnc,hcm,hcs,htk⟩
  ·injection hv with e1 e2 e3
   subst e1 e3 hn0
   have hm0:m=0:=by omega
   subst hm0
   have hx0:xs=[]:=List.eq_nil_of_length_eq_zero (by simpa using hh.1)
   have hn0:news=[]:=List.eq_nil_of_length_eq_zero (by simpa using hs.newsLen)
   subst hx0 hn0
   refine ⟨none,0,w,?_,by simpa using hh,Ext.refl _ _ _,fun g hg=> .inl hg⟩
   rcases hs.kind with ⟨e',hk⟩ | hk<;>simp [Builtin.append_,run_underlying h2,run_underlying hk,sizeOf,typeInfo,h3,hs.len,hs.cells]
  ·injection hv with e1 e2 e3
   subst e1 e3
   have hfit:n*i.size+news.length≤cur.size:=by rw [hs.newsLen,hcs, ← Nat.add_mul];exact Nat.mul_le_mul_right _ hroom
   have hst:=run_storeCells_at P g (n*i.size) el news 0 cur w hg (by simpa using hfit) hs.one
   simp only [Nat.add_zero] at hst
   have hrun:(Builtin.append_ #[t,tx] ty #[.slice (some ⟨g,0,none⟩) n c,x]).run P w= .ok (.slice (some ⟨g,0,none⟩) (n+m) c) (w.setRow g (cur.toList.take (n*i.size)++news++cur.toList.drop (n*i.size+news.length)).toArray):=by
    rcases hs.kind with ⟨e',hk⟩ | hk<;>simp [Builtin.append_,run_underlying h2,run_underlying hk,sizeOf,typeInfo,h3,hs.len,hroom,hs.cells,Addr.add_lit,hst]
   have hnew:(w.setRow g (cur.toList.take (n*i.size)++news++cur.toList.drop (n*i.size+news.length)).toArray).heap[g]? =some (.cells (cur.toList.take (n*i.size)++news++cur.toList.drop (n*i.size+news.length)).toArray el (0,0)):=setRow_heap w g cur _ el _ hg
   have hoth: ∀ k,k≠g→(w.setRow g (cur.toList.take (n*i.size)++news++cur.toList.drop (n*i.size+news.length)).toArray).heap[k]? =w.heap[k]? :=fun k hk=>setRow_other w g k _ hk
   refine ⟨_,c,_,hrun,⟨hlen, .inr ⟨g,c,_,rfl,Nat.zero_le _,hnew,hroom,hcm,?_,?_⟩⟩,⟨rfl,rfl,rfl,by simp,fun k _ _ hf=>hoth k fun e=>hf (.row p (.slice (some ⟨g,0,none⟩) n c) el i.size n xs) (by simp) (by rw [e];rfl),fun k m' hk h=>(by cases h),fun d hd k hk hlt=>?_⟩,fun g' hg'=> .inl hg'⟩
   ·simp only [List.size_toArray,List.length_append,List.length_take,List.length_drop,Array.length_toList]
    omega
   ·show List.take _ (_++_++_)=_
    rw [htk, ← hlen]
    exact List.take_left
   ·have:d= .row p (.slice (some ⟨g,0,none⟩) n c) el i.size n xs:=by simpa using hd
    subst this
    have hk':g=k:=by simpa [Chunk.blk,Value.ownBlock] using hk
    subst hk'
    intro a ha hoff
    have hpre:(Chunk.row p (.slice (some ⟨g,0,none⟩) n c) el i.size n xs).pre≤n*i.size:=by
     unfold Chunk.pre
     cases p<;>simp
    have hoff':a.off<n*i.size:=Nat.lt_of_lt_of_le hoff hpre
    simp only [World.cell?,ha,hg,hnew]
    split
    ·rfl
    ·have h10:a.off<(cur.toList.take (n*i.size)).length:=by
      rw [List.length_take,Array.length_toList,hcs]
      have:n*i.size≤c*i.size:=Nat.mul_le_mul_right _ hnc
      omega
     rw [List.getElem?_toArray,List.append_assoc,List.getElem?_append_left h10,List.getElem?_take,if_pos hoff']
     simp
 ·-- there is none
  have hg0:c<n+m:=by omega
  have hold:(Builtin.firstCells i.size n (.slice A n c)).run P w.drew= .ok xs.toArray w.drew:=by
   rcases hh.2 with ⟨hv,hn0⟩ | ⟨g,cap,cur,hv,_⟩
   ·injection hv with e1 e2 e3
    subst e1 e3 hn0
    have hx0:xs=[]:=List.eq_nil_of_length_eq_zero (by simpa using hh.1)
    subst hx0
    exact run_firstCells_none w.drew i.size 0 0 0
   ·injection hv with e1 e2 e3
    subst e1
    exact run_firstCells_some w.drew i.size n ⟨g,0,none⟩ n c xs hh.1 (by simpa using hh.cells (g:=g) rfl)
  have hr:=run_append_grow_src (P:=P) w t tx ty el i z h2 h3 h4 A n c xs hold x m news hs hg0 (by omega) (growslice_fits hg0 hbytes)
  have hge:=grownCap_ge w (n+m) c el
  have hcm:=grownCap_le_maxLen w (n+m) c el hmax
  obtain ⟨q1,q2⟩:=fresh _ hg0 hge hcm (.ok default w) trivial
  exact ⟨_,_,_,hr,q1,q2,fun g hg=> .inr (by simp only [Value.ownBlock,Option.some.injEq] at hg;omega)⟩
end
end Go.Lf
/-
  Objects that are written; heads of slices that move.
-/
namespace Go.Lf
open Go Go.iM
section
variable {P:Program} {N:Nat} {C:Cx} {G:World→Prop} {c:Ctx} {S:St} {a:Act} {w:World}
variable {W:d_} {e:Env} {eh oh:List Chunk}
theorem aR {α:Type} (f:Nat→α) (j:Nat) (x:α):upd f j x j=x:=if_pos rfl
theorem ji.mono {φ ψ:bL} (hle:φ.le ψ) {l:List Dn} {vs:List Value} {h:List Chunk} (ht:ji φ l vs h):ji ψ l vs h:=by
 induction ht with
 | nil=>exact .nil
 | cons h1 h2 _ ih=>exact .cons h1 (h2.mono hle) ih
theorem DR.move {W':d_} {d:D} {v:Value} {h:List Chunk} (hd:DR W d v h) (hle:W.φ.le W'.φ) (hadr:W'.aA=W.aA) (h1: ∀ i p o,d= .bO i p o→(W'.hd i)[o]? =(W.hd i)[o]?) (h2: ∀ i p o n z q qo,d= .xZ i p o n z q qo→(W'.hd i)[o]? =(W.hd i)[o]?):DR W' d v h:=by
 cases d with
 | v t x=>obtain ⟨cs,q1,q2,q3⟩:=hd;exact ⟨cs,q1,q2,q3.mono hle⟩
 | ref j p o=>obtain ⟨q1,q2⟩:=hd;exact ⟨by rw [hadr];exact q1,q2⟩
 | Ca t x=>obtain ⟨ad,cs,q1,q2,q3,q4⟩:=hd;exact ⟨ad,cs,q1,q2.mono hle,q3.mono hle,q4⟩
 | bO j p o=>obtain ⟨q1,q2⟩:=hd;exact ⟨by rw [h1 _ _ _ rfl];exact q1,q2⟩
 | xZ j p o n z q qo=>obtain ⟨A,m,cc,q1,q2,q3⟩:=hd;exact ⟨A,m,cc,by rw [h2 _ _ _ _ _ _ _ rfl];exact q1,q2,q3⟩
 | BQ l=>obtain ⟨vs,q1,q2⟩:=hd;exact ⟨vs,q1,q2.mono hle⟩
 | xV j p o n z q qo=>obtain ⟨q1,q2⟩:=hd;exact ⟨by rw [hadr];exact q1,q2⟩
 | NQ j p o k n=>obtain ⟨⟨q0,q1⟩,q2⟩:=hd;exact ⟨⟨q0,by rw [hadr];exact q1⟩,q2⟩
 | MK te j p o=>obtain ⟨q1,q2⟩:=hd;exact ⟨by rw [hadr];exact q1,q2⟩
 | sJ j p o=>obtain ⟨⟨c,q1,q2⟩,q3⟩:=hd;exact ⟨⟨c,q1,by rw [hadr];exact hle _ _ q2⟩,q3⟩
 | zR g n l=>obtain ⟨⟨vs,q1,q2⟩,q3⟩:=hd;exact ⟨⟨vs,zk.all q1 hle fun p _=>by rw [hadr],q2⟩,q3⟩
 | _=>exact hd
theorem ay.mono {W':d_} {l:List (Nat×D)} {hs:List Chunk} (h:ay W l e hs) (hle:W.φ.le W'.φ) (hadr:W'.aA=W.aA) (hhd:W'.hd=W.hd):ay W' l e hs:=by
 induction h with
 | nil=>exact .nil
 | cons h1 _ ih=>exact .cons (h1.move hle hadr (fun _ _ _ _=>by rw [hhd]) (fun _ _ _ _ _ _ _ _=>by rw [hhd])) ih
theorem nO.mono {W':d_} {l:List (Nat×Ob)} {hs:List Chunk} (h:nO W l hs) (hle:W.φ.le W'.φ) (hadr:W'.aA=W.aA) (hhd:W'.hd=W.hd):nO W' l hs:=by
 induction h with
 | nil=>exact .nil
 | cons h1 _ ih=>
  obtain ⟨h0,q1,q2⟩:=h1
  exact .cons ⟨h0,by rw [hhd];exact q1.mono hle,by rw [hhd,hadr];exact q2⟩ ih
theorem aZ.mono {φ':bL} (h:aZ S W e eh oh) (hle:W.φ.le φ'):aZ S ⟨φ',W.aA,W.hd⟩ e eh oh:=⟨h.env.mono hle rfl rfl,h.l9.mono hle rfl rfl,h.nd⟩
theorem ay.kill {φ':bL} {l:List (Nat×D)} {hs:List Chunk} (h:ay W l e hs) (hle:W.φ.le φ') {j o n:Nat} {cs:List Value} (hcs: ∀ o', ¬ (o≤o'∧o'<o+n)→cs[o']? =(W.hd j)[o']?):
  ay ⟨φ',W.aA,upd W.hd j cs⟩ (jB j o n l) e hs:=by
 have key: ∀ (i o':Nat), ¬ (j=i∧o≤o'∧o'<o+n)→((upd W.hd j cs) i)[o']? =(W.hd i)[o']? :=fun i o' hn=>by
  unfold upd
  split
  ·rename_i he
   subst he
   exact hcs o' fun h=>hn ⟨rfl,h⟩
  ·rfl
 have tst: ∀ (i o':Nat),(Nat.beq j i && Nat.ble o o' && Nat.blt o' (o+n))=false→ ¬ (j=i∧o≤o'∧o'<o+n):=fun i o' hb ⟨e1,e2,e3⟩=>by
  subst e1
  have h1:Nat.ble o o'=true:=Nat.ble_eq_true_of_le e2
  have h2:Nat.blt o' (o+n)=true:=by simpa [Nat.blt_eq] using e3
  rw [Nat.beq_refl,h1,h2] at hb
  cases hb
 induction h with
 | nil=>exact .nil
 | @cons k d v h hs l e h1 h2 ih=>
  cases d with
  | bO i p o'=>
   unfold jB
   cases hb:(Nat.beq j i && Nat.ble o o' && Nat.blt o' (o+n)) with
   | true=>exact .cons (show DR _ .und v h from h1.2) ih
   | false=>exact .cons (h1.move hle rfl (fun _ _ _ he=>by cases he;exact key _ _ (tst _ _ hb)) (fun _ _ _ _ _ _ _ he=>by cases he)) ih
  | xZ i p o' m z q qo=>
   unfold jB
   cases hb:(Nat.beq j i && Nat.ble o o' && Nat.blt o' (o+n)) with
   | true=>
    obtain ⟨A,m,cc,_,_,h3⟩:=h1
    exact .cons (show DR _ .und v h from h3) ih
   | false=>exact .cons (h1.move hle rfl (fun _ _ _ he=>by cases he) (fun _ _ _ _ _ _ _ he=>by cases he;exact key _ _ (tst _ _ hb))) ih
  | _=>exact .cons (h1.move hle rfl (fun _ _ _ he=>by cases he) (fun _ _ _ _ _ _ _ he=>by cases he)) ih
theorem ay.Af {l:List (Nat×D)} {hs:List Chunk} (h:ay W l e hs) (j:Nat):ay W (Lf.oZ j l) e hs:=by
 have h1:=h.oZ j (W.aA j) (W.hd j)
 have e1:upd W.aA j (W.aA j)=W.aA:=by funext i;unfold upd;split<;>simp_all
 have e2:upd W.hd j (W.hd j)=W.hd:=by funext i;unfold upd;split<;>simp_all
 rw [e1,e2] at h1
 exact h1
theorem nO.set {l:List (Nat×Ob)} {hs:List Chunk} (h:nO W l hs) (nd:(l.map (·.1)).Nodup) {j:Nat} {ob:Ob} (hj:Lf.look l j=some ob):
  ∃ h0 r,xn W j ob h0∧hs.Perm (h0++r)∧(∀ (φ':bL) (cs:List Value) (ob':Ob) (h':List Chunk),W.φ.le φ'→xn ⟨φ',W.aA,upd W.hd j cs⟩ j ob' h'→ ∃ hs',nO ⟨φ',W.aA,upd W.hd j cs⟩ (aQ l j ob') hs'∧hs'.Perm (h'++r))∧
   (∀ (φ':bL),W.φ.le φ'→ ∃ hs',nO ⟨φ',W.aA,W.hd⟩ (sO l j) hs'∧hs'.Perm r):=by
 induction h with
 | nil=>cases hj
 | @cons i ob0 h hs l h1 h2 ih=>
  simp only [List.map_cons,List.nodup_cons] at nd
  have others: ∀ (φ':bL) (cs:List Value) (j:Nat),W.φ.le φ'→j∉l.map (·.1)→nO ⟨φ',W.aA,upd W.hd j cs⟩ l hs:=fun φ' cs j hle hn=>by
   have h3:=h2.other hn (W.aA j) cs
   have e1:upd W.aA j (W.aA j)=W.aA:=by funext i;unfold upd;split<;>simp_all
   rw [e1] at h3
   exact h3.mono hle rfl rfl
  rw [au] at hj
  split at hj
  ·rename_i he
   subst he
   simp only [Option.some.injEq] at hj
   subst hj
   refine ⟨h,hs,h1,List.Perm.refl _,fun φ' cs ob' h' hle hok=>?_,fun φ' hle=>?_⟩
   ·rw [aJ,if_pos rfl]
    exact ⟨h'++hs, .cons hok (others φ' cs i hle nd.1),List.Perm.refl _⟩
   ·rw [wN,if_pos rfl]
    have:sO l i=l:=by
     have: ∀ (l:List (Nat×Ob)),i∉l.map (·.1)→sO l i=l:=fun l=>by
      induction l with
      | nil=>intro _;rfl
      | cons p q ih=>
       intro hn
       simp only [List.map_cons,List.mem_cons,not_or] at hn
       rw [show p=(p.1,p.2) from rfl,wN,if_neg fun e=>hn.1 e.symm,ih hn.2]
     exact this l nd.1
    rw [this]
    exact ⟨hs,h2.mono hle rfl rfl,List.Perm.refl _⟩
  ·rename_i hne
   obtain ⟨h0,r,q1,q2,q3,q4⟩:=ih nd.2 hj
   refine ⟨h0,h++r,q1,(q2.append_left h).trans (by rw [← List.append_assoc, ← List.append_assoc];exact List.perm_append_comm.append_right r),fun φ' cs ob' h' hle hok=>?_,fun φ' hle=>?_⟩
   ·obtain ⟨hs',g1,g2⟩:=q3 φ' cs ob' h' hle hok
    rw [aJ,if_neg hne]
    refine ⟨h++hs', .cons ?_ g1,(g2.append_left h).trans (by rw [← List.append_assoc, ← List.append_assoc];exact List.perm_append_comm.append_right r)⟩
    obtain ⟨h00,p1,p2⟩:=h1
    have e3:upd W.hd j cs i=W.hd i:=by unfold upd;rw [if_neg hne]
    refine ⟨h00,?_,?_⟩
    ·show Rp φ' ob0.t ob0.x (upd W.hd j cs i) h00
     rw [e3];exact p1.mono hle
    ·show h=match ob0.tid with | some tid=>blk (W.aA i) tid (upd W.hd j cs i)::h00 | none=>h00
     rw [e3];exact p2
   ·obtain ⟨hs',g1,g2⟩:=q4 φ' hle
    rw [wN,if_neg hne]
    obtain ⟨h00,p1,p2⟩:=h1
    exact ⟨h++hs', .cons ⟨h00,p1.mono hle,p2⟩ g1,g2.append_left h⟩
theorem mK {α:Type} (l:List (Nat×α)) (k:Nat) (v:α) (h:k∈l.map (·.1)):(aQ l k v).map (·.1)=l.map (·.1):=by
 induction l with
 | nil=>simp at h
 | cons p r ih=>
  rw [show p=(p.1,p.2) from rfl,aJ]
  split
  ·rename_i he;simp [he]
  ·rename_i he
   simp only [List.map_cons,List.mem_cons] at h ⊢
   rw [ih (h.resolve_left fun e=>he e.symm)]
theorem jF {α:Type} {l:List (Nat×α)} {k:Nat} {v:α} (h:look l k=some v):k∈l.map (·.1):=by
 induction l with
 | nil=>cases h
 | cons p r ih=>
  rw [show p=(p.1,p.2) from rfl,au] at h
  split at h
  ·rename_i he;simp [he]
  ·simp [ih h]
theorem mP {α:Type} {l:List (Nat×α)} (k:Nat) (h:(l.map (·.1)).Nodup):((sO l k).map (·.1)).Nodup∧ ∀ i,i∈(sO l k).map (·.1)→i∈l.map (·.1):=by
 induction l with
 | nil=>exact ⟨h,fun i hi=>hi⟩
 | cons p r ih=>
  simp only [List.map_cons,List.nodup_cons] at h
  obtain ⟨h1,h2⟩:=ih h.2
  rw [show p=(p.1,p.2) from rfl,wN]
  split
  ·exact ⟨h1,fun i hi=>List.mem_cons_of_mem _ (h2 i hi)⟩
  ·refine ⟨?_,fun i hi=>?_⟩
   ·simp only [List.map_cons,List.nodup_cons]
    exact ⟨fun hp=>h.1 (h2 _ hp),h1⟩
   ·simp only [List.map_cons,List.mem_cons] at hi ⊢
    exact hi.imp id (h2 i)
def eO (W:d_) (j:Nat) (tid:Option Nat) (cs:List Value):List Chunk:=match tid with | some tid=>[blk (W.aA j) tid cs] | none=>[]
theorem pW {j:Nat} {p:List Dir} {o:Nat} {y:Dn} {S':St} (h:S.w9 j p o y=some S') (hs:aZ S W e eh oh):
  ∃ ob pre mid post h1 h2 h3 r s,look S.az j=some ob∧S.at j p o=some s∧y.1.er=s.1.er∧W.hd j=pre++mid++post∧pre.length=o∧Rp W.φ s.1 s.2 mid h2∧oh.Perm (eO W j ob.tid (W.hd j)++(h1++h2++h3)++r)∧
   ∀ (φ':bL) (mid':List Value) (h2':List Chunk),W.φ.le φ'→Rp φ' y.1 y.2 mid' h2'→
    ∃ oh',aZ S' ⟨φ',W.aA,upd W.hd j (pre++mid'++post)⟩ e eh oh'∧oh'.Perm (eO W j ob.tid (pre++mid'++post)++(h1++h2'++h3)++r):=by
 unfold St.w9 at h
 split at h<;>first | cases h | skip
 rename_i ob hob
 cases hb:Nat.beq (aH ob.t p) o with
 | false=>rw [hb] at h;cases h
 | true=>
  rw [hb] at h
  simp only [cond_true] at h
  have ho:=Nat.eq_of_beq_eq_true hb
  split at h<;>first | cases h | skip
  rename_i z hz
  obtain ⟨h0,r,⟨hc,q1,q2⟩,q3,q4,_⟩:=hs.l9.set hs.nd hob
  obtain ⟨pre,mid,post,h1,h2,h3,s,g0,g1,g2,g3,g4,g5,g6,g7,g8⟩:=iC hz q1
  have hat:S.at j p o=some s:=by unfold St.at;rw [hob];simp only [hb,cond_true,g0]
  have hsz:y.1.size=s.1.size:=by rw [← Ty.aF y.1, ← Ty.aF s.1,g1]
  refine ⟨ob,pre,mid,post,h1,h2,h3,r,s,hob,hat,g1,g2,by rw [g3,ho],g5,q3.trans (by rw [q2,g4];unfold eO;cases ob.tid<;>simp),fun φ' mid' h2' hle hr=>?_⟩
  have hrz:=g8 φ' mid' h2' hle hr
  obtain ⟨hs',k1,k2⟩:=q4 φ' (pre++mid'++post) ⟨ob.tid,z.1,z.2⟩ (match ob.tid with | some tid=>blk (W.aA j) tid (pre++mid'++post)::(h1++h2'++h3) | none=>(h1++h2'++h3)) hle ⟨h1++h2'++h3,by show Rp φ' z.1 z.2 (upd W.hd j (pre++mid'++post) j) _;rw [aR];exact hrz,by show _=match ob.tid with | some tid=>blk (W.aA j) tid (upd W.hd j (pre++mid'++post) j)::(h1++h2'++h3) | none=>(h1++h2'++h3);rw [aR]⟩
  refine ⟨hs',⟨?_,k1,?_⟩,k2.trans ?_⟩
  ·refine hs.env.kill hle fun o' hn=>?_
   have hml:mid'.length=mid.length:=by rw [hr.len,hsz,g5.len]
   rw [g2]
   have hpl:pre.length=o:=by rw [g3,ho]
   have hmz:mid'.length=y.1.size:=hr.len
   by_cases hlt:o'<o
   ·rw [List.append_assoc,List.append_assoc,List.getElem?_append_left (by omega),List.getElem?_append_left (by omega)]
   ·have hge:o+y.1.size≤o':=by
     rcases Nat.lt_or_ge o' (o+y.1.size) with h9 | h9
     ·exact absurd ⟨by omega,h9⟩ hn
     ·exact h9
    rw [List.append_assoc,List.append_assoc,List.getElem?_append_right (by omega),List.getElem?_append_right (by omega),List.getElem?_append_right (by omega),List.getElem?_append_right (by omega),hml]
  ·rw [mK _ _ _ (jF hob)]
   exact hs.nd
  ·unfold eO;cases ob.tid<;>simp
theorem upd_same {α:Type} (f:Nat→α) (j:Nat):upd f j (f j)=f:=by funext i;unfold upd;split<;>simp_all
theorem rQ {j:Nat} {p:List Dir} {o:Nat} {y:Dn} {S':St} (h:S.takeA j p o=some (y,S')) (hs:aZ S W e eh oh):
  ∃ v h0 oh',(W.hd j)[o]? =some v∧Rp W.φ y.1 y.2 [v] h0∧aZ S' W e eh oh'∧Sub oh (h0++oh')∧(∃ A n c,v= .slice A n c)∧ ∃ el t,y.1= .mr el t:=by
 unfold St.takeA at h
 split at h<;>first | cases h | skip
 rename_i ob hob
 split at h
 ·rename_i ht
  obtain ⟨tid,ty,x⟩:=ob
  simp only at ht h
  subst ht
  split at h<;>first | cases h | skip
  rename_i el t l
  cases ho:Nat.beq o 0 with
  | false=>rw [ho] at h;cases h
  | true=>
   rw [ho] at h
   simp only [cond_true,Option.some.injEq,Prod.mk.injEq] at h
   obtain ⟨rfl,rfl⟩:=h
   have ho:=Nat.eq_of_beq_eq_true ho
   subst ho
   obtain ⟨h0,r,⟨hc,q1,q2⟩,q3,_,q4⟩:=hs.l9.set hs.nd hob
   obtain ⟨oh',k1,k2⟩:=q4 W.φ W.φ.le_refl
   obtain ⟨A,cc,css,m1,m2⟩:=q1
   refine ⟨.slice A (List.length l) cc,hc,oh',by rw [m1];rfl,⟨A,cc,css,rfl,m2⟩,⟨hs.env.Af j,k1,(mP j hs.nd).1⟩,?_,⟨_,_,_,rfl⟩,_,_,rfl⟩
   refine (Sub.perm q3).trans ?_
   rw [q2]
   exact Sub.app (Sub.refl _) (Sub.perm k2.symm)
 ·cases h
 ·split at h<;>first | cases h | skip
  rename_i el t l hg
  split at h<;>first | cases h | skip
  rename_i S1 hset
  obtain ⟨ob',pre,mid,post,h1,h2,h3,r,s,g1,g2,g3,g4,g5,g6,g7,g8⟩:=pW hset hs
  have he:ob'=ob:=Option.some.inj (g1.symm.trans hob)
  subst he
  obtain ⟨ob2,a1,a2,a3⟩:=zO g2
  have he2:ob2=ob':=Option.some.inj (a1.symm.trans hob)
  subst he2
  have hsy:s=⟨.mr el t,l⟩:=Option.some.inj (a3.symm.trans hg)
  subst hsy
  obtain ⟨A,cc,css,m1,m2⟩:=g6
  have m1:mid=[.slice A (List.length l) cc]:=m1
  subst m1
  obtain ⟨oh',k1,k2⟩:=g8 W.φ [.slice A (List.length l) cc] [] W.φ.le_refl ⟨A,_,cc,rfl,rfl⟩
  rw [← g4,upd_same] at k1
  rw [← g4] at k2
  refine ⟨.slice A (List.length l) cc,h2,oh',by rw [g4, ← g5];simp,⟨A,cc,css,rfl,m2⟩,k1,?_,⟨_,_,_,rfl⟩,_,_,rfl⟩
  refine (Sub.perm g7).trans (Sub.perm (List.Perm.trans ?_ (k2.symm.append_left h2)))
  have:(eO W j ob2.tid (W.hd j)++(h1++h2++h3)++r).Perm (h2++(eO W j ob2.tid (W.hd j)++(h1++[]++h3)++r)):=by
   simp only [List.append_assoc,List.nil_append]
   refine List.Perm.trans ?_ (List.perm_append_comm_assoc _ _ _)
   refine List.Perm.append_left _ ?_
   exact List.perm_append_comm_assoc _ _ _
  exact this
theorem G_ {j:Nat} {p:List Dir} {o:Nat} {y:Dn} {S':St} (h:S.open_ j p o=some (y,S')) (hs:aZ S W e eh oh) (hb:Hb C w (eh++oh) (Inv G W.φ)):
  ∃ t l,y=⟨.sl t,l⟩∧ ∃ v φ' oh',(W.hd j)[o]? =some v∧W.φ.le φ'∧Rp φ' (.sl t) l [v] []∧aZ S' ⟨φ',W.aA,W.hd⟩ e eh oh'∧Hb C w (eh++oh') (Inv G φ'):=by
 unfold St.open_ at h
 split at h<;>first | cases h | skip
 rename_i el t l S1 hta
 obtain ⟨v,h0,oh1,b1,b2,b3,b4,_⟩:=rQ hta hs
 obtain ⟨A,cc,css,m1,m2,m3,m4,m5⟩:=b2
 have hv:v= .slice A (List.length l) cc:=by injection m1
 subst hv
 have hrow:Sub (eh++oh) (h0++(eh++oh1)):=(Sub.app (Sub.refl eh) b4).trans (Sub.perm (List.perm_append_comm_assoc _ _ _))
 rw [m5] at hrow
 obtain ⟨φ',f1,f2,f3⟩:=tX (hrow.hb hb)
 have hsl:Rp φ' (.sl t) l [.slice A (List.length l) cc] []:=⟨A,cc,css,rfl,m2,m3.imp fun _ _ hx=>hx.mono f1,f2,rfl⟩
 have b5:=b3.mono f1
 split at h
 ·split at h
  case _ S2 hset=>
   simp only [Option.some.injEq,Prod.mk.injEq] at h
   obtain ⟨rfl,rfl⟩:=h
   obtain ⟨ob,pre,mid,post,h1,h2,h3,r,s,g1,g2,g3,g4,g5,g6,g7,g8⟩:=pW hset b5
   have hm1:mid.length=1:=by
    rw [g6.len, ← Ty.aF s.1, ← g3];rfl
   have hmid:mid=[.slice A (List.length l) cc]:=by
    have h9:W.hd j=pre++mid++post:=g4
    match mid,hm1,h9 with
    | [u],_,h9=>
     rw [h9, ← g5] at b1
     simp at b1
     rw [b1]
   subst hmid
   have h9:W.hd j=pre++[.slice A (List.length l) cc]++post:=g4
   have hs9:s.1= .dead el t∨True:= .inr trivial
   obtain ⟨oh',k1,k2⟩:=g8 φ' [.slice A (List.length l) cc] [] φ'.le_refl hsl
   have e1:upd W.hd j (pre++[.slice A (List.length l) cc]++post)=W.hd:=by rw [← h9];exact upd_same _ _
   rw [e1] at k1
   refine ⟨t,l,rfl,_,φ',oh',b1,f1,hsl,k1,?_⟩
   have e2:pre++[.slice A (List.length l) cc]++post=W.hd j:=h9.symm
   rw [e2] at k2
   refine (Sub.app (Sub.refl eh) ((Sub.perm g7).trans ((?_:Sub _ (eO _ j ob.tid (W.hd j)++(h1++[]++h3)++r)).trans (Sub.perm k2.symm)))).hb f3
   refine Sub.app (Sub.app (Sub.refl _) (Sub.app (Sub.app (Sub.refl _) (Sub.nil _)) (Sub.refl _))) (Sub.refl _)
  case _=>cases h
 ·simp only [Option.some.injEq,Prod.mk.injEq] at h
  obtain ⟨rfl,rfl⟩:=h
  exact ⟨t,l,rfl,_,φ',oh1,b1,f1,hsl,b5,f3⟩
theorem N_ {j:Nat} {x:D} {v:Value} (hv:(W.hd j)[0]? =some v) (hx:DR W x v []) {L:List (Nat×D)} {e:Env} {hs:List Chunk} (h:ay W L e hs):ay W (Fv j x L) e hs:=by
 induction h with
 | nil=>exact .nil
 | @cons k d v' h hs l e h1 h2 ih=>
  cases d with
  | bO j' p o=>
   cases p with
   | cons _ _=>exact .cons h1 ih
   | nil=>
    cases o with
    | succ _=>exact .cons h1 ih
    | zero=>
     cases hj:Nat.beq j' j with
     | false=>
      show ay W ((k,bif Nat.beq j' j then x else .bO j' [] 0)::Fv j x l) _ _
      rw [hj];exact .cons h1 ih
     | true=>
      show ay W ((k,bif Nat.beq j' j then x else .bO j' [] 0)::Fv j x l) _ _
      rw [hj]
      have hj:=Nat.eq_of_beq_eq_true hj
      subst hj
      obtain ⟨g1,g2⟩:=h1
      subst g2
      rw [hv] at g1
      injection g1 with g1
      subst g1
      exact .cons hx ih
  | _=>exact .cons h1 ih
theorem PM {j:Nat} {S':St} (h:O5 S j=some S') (hat:At N C G S a w):At N C G S' a w:=by
 obtain ⟨W,e,eh,oh,hs,hf,hb⟩:=hat
 unfold O5 at h
 split at h
 ·rename_i t l S1 ho
  injection h with h
  subst h
  obtain ⟨t',l',ey,v,φ',oh',b1,b2,b3,b4,b5⟩:=G_ ho hs hb
  injection ey with e1 e2
  injection e1 with e1
  subst e1
  have e2:=eq_of_heq e2
  subst e2
  exact ⟨⟨φ',W.aA,W.hd⟩,e,eh,oh',⟨N_ (W:=⟨φ',W.aA,W.hd⟩) (x:= .v (.sl t) l) b1 (show DR _ (.v (.sl t) l) v [] from ⟨[v],rfl,rfl,b3⟩) (hs.mono b2).env,b4.l9,b4.nd⟩,hf,b5⟩
 ·cases h
end
end Go.Lf
/-
  Operations that turn more than their slot: each kind.
-/
namespace Go.Lf
open Go Go.iM
section
variable {P:Program} {N:Nat} {C:Cx} {G:World→Prop} {c:Ctx} {S:St} {Rt:Type} {k:St→Option Rt} {r:Rt} {a:Act} {w:World}
variable {W:d_} {e:Env} {eh oh:List Chunk} {dst:Option Tmp} {ty:TypeId} {pos:String} {af:Array Edge} {gd:Option (Nat×Bool)}
theorem ay.swap {l:List (Nat×D)} {hs:List Chunk} (h:ay W l e hs) {i:Nat} {d:D} (hk:Lf.look l i=some d):
  ∃ v h1 r,rW e i v∧DR W d v h1∧hs.Perm (h1++r)∧ ∀ d' h',DR W d' v h'→ ∃ hs',ay W (aQ l i d') e hs'∧hs'.Perm (h'++r):=by
 induction h with
 | nil=>cases hk
 | @cons k' d0 v h hs l e h1 h2 ih=>
  rw [au] at hk
  split at hk
  ·rename_i hkk
   subst hkk
   simp only [Option.some.injEq] at hk
   subst hk
   refine ⟨v,h,hs, .here,h1,List.Perm.refl _,fun d' h' hd=>⟨h'++hs,?_,List.Perm.refl _⟩⟩
   rw [aJ,if_pos rfl]
   exact .cons hd h2
  ·rename_i hkk
   obtain ⟨v2,h3,r,q1,q2,q3,q4⟩:=ih hk
   refine ⟨v2,h3,h++r, .there q1,q2,(q3.append_left h).trans (List.perm_append_comm_assoc _ _ _),fun d' h' hd=>?_⟩
   obtain ⟨hs',g1,g2⟩:=q4 d' h' hd
   refine ⟨h++hs',?_,(g2.append_left h).trans (List.perm_append_comm_assoc _ _ _)⟩
   rw [aJ,if_neg hkk]
   exact .cons h1 g1
theorem gD.value {o:Oper} {S':St} {v:Value} {w':World} (hr:(execOp a.eval o).run P w= .ok (.value v) w') (h:At N C G S' (a.put o.dst v) w'):gD P N C G o S' a w:=by
 unfold gD;rw [hr];exact h
theorem gD.skip {o:Oper} {S':St} {w':World} (hr:(execOp a.eval o).run P w= .ok .skip w') (h:At N C G S' (a.put o.dst undef) w'):gD P N C G o S' a w:=by
 unfold gD;rw [hr];exact h
theorem uw (hn:c.n=N) {d el:Nat} {t:Ty} {l:List t.den} {S1:St} (h:BB c d el t l S1 k=some r):
  ∃ S',k S'=some r∧ ∀ W e eh oh A cc css a w,aZ S1 W e eh oh→l.length≤cc→bz (fun x cs=>Rp W.φ t x cs []) l css→(0<l.length→A.isSome=true)→Fr a N e→
   Hb C w (.row false (.slice A l.length cc) el t.size l.length css.flatten::(eh++oh)) (Inv G W.φ)→At N C G S' (a.put (some d) (.slice A l.length cc)) w:=by
 obtain ⟨S',h1,h2⟩:=Ce (C:=C) (G:=G) hn h
 refine ⟨S',h1,fun W e eh oh A cc css a w hs g1 g2 g3 hf hb=>?_⟩
 refine h2 W e eh oh 0 [.slice A l.length cc] [.row false (.slice A l.length cc) el t.size l.length css.flatten] _ a w hs ⟨A,cc,css,rfl,g1,g2,g3,rfl⟩ hf ⟨by simp [upd],rfl⟩ hb
theorem Gh (hn:c.n=N) {o:Oper} {S1:St} {t:Ty} {y:t.den} (h:Ht c o S1 t y k=some r): ∃ S',k S'=some r∧ ∀ W e eh oh v hh a w,aZ S1 W e eh oh→DR W (.v t y) v hh→Fr a N e→Hb C w (hh++(eh++oh)) (Inv G W.φ)→At N C G S' (a.put o.dst v) w:=by
 unfold Ht at h
 split at h
 ·rename_i el a l d hd
  have op:out c o S1 (.v (.sl a) l) k=some r→ ∃ S',k S'=some r∧ ∀ W e eh oh v hh a2 w,aZ S1 W e eh oh→DR W (.v (.mr el a) l) v hh→Fr a2 N e→Hb C w (hh++(eh++oh)) (Inv G W.φ)→At N C G S' (a2.put o.dst v) w:=fun h=>by
   obtain ⟨S',h1,h2⟩:=dz (C:=C) (G:=G) hn h
   refine ⟨S',h1,fun W e eh oh v hh a2 w hs ⟨cs,_,hv,A,cc,css,m1,m2,m3,m4,m5⟩ hf hb=>?_⟩
   subst m1 m5 hv
   obtain ⟨φ',f1,f2,f3⟩:=tX hb
   exact h2 ⟨φ',W.aA,W.hd⟩ e eh oh _ [] a2 w (hs.mono f1) ⟨[.slice A (List.length l) cc],rfl,rfl,A,cc,css,rfl,m2,m3.imp fun _ _ hx=>hx.mono f1,f2,rfl⟩ hf f3
  split at h
  ·obtain ⟨S',h1,h2⟩:=uw (C:=C) (G:=G) hn h
   refine ⟨S',h1,fun W e eh oh v hh a2 w hs ⟨cs,_,hv,A,cc,css,m1,m2,m3,m4,m5⟩ hf hb=>?_⟩
   subst m1 m5 hv
   rw [hd]
   exact h2 W e eh oh A cc css a2 w hs m2 m3 m4 hf hb
  ·cases hm:mem d c.tk with
   | true=>rw [hm] at h;exact dz hn h
   | false=>rw [hm] at h;exact op h
 ·rename_i id a x d hd
  obtain ⟨S',h1,h2⟩:=Ce (C:=C) (G:=G) hn h
  refine ⟨S',h1,fun W e eh oh v hh a2 w hs ⟨cs,_,hv,g,cs',h0,m1,m2,m3⟩ hf hb=>?_⟩
  subst m1 m3 hv
  rw [hd]
  exact h2 W e eh oh g cs' h0 _ a2 w hs m2 hf ⟨by simp [upd,sv],rfl⟩ (by simpa using hb)
 ·exact dz hn h
theorem Q3 (hn:c.n=N) {o:Oper} {S1:St} {t:Ty} {y:t.den} (h:Ke c o S1 t y k=some r): ∃ S',k S'=some r∧ ∀ W e eh oh v hh a w,aZ S1 W e eh oh→DR W (.v t y) v hh→Fr a N e→Hb C w (hh++(eh++oh)) (Inv G W.φ)→At N C G S' (a.put o.dst v) w:=by
 unfold Ke at h
 split at h
 ·rename_i el a l d hd
  split at h
  ·obtain ⟨S',h1,h2⟩:=uw (C:=C) (G:=G) hn h
   refine ⟨S',h1,fun W e eh oh v hh a2 w hs ⟨cs,_,hv,A,cc,css,m1,m2,m3,m4,m5⟩ hf hb=>?_⟩
   subst m1 m5 hv
   rw [hd]
   exact h2 W e eh oh A cc css a2 w hs m2 m3 m4 hf hb
  ·exact dz hn h
 ·exact dz hn h
theorem L8 (hn:c.n=N) {o:Oper} {S1:St} {l:List Dn} (h:BR c o S1 l k=some r): ∃ S',k S'=some r∧ ∀ W e eh oh v hh a w,aZ S1 W e eh oh→DR W (M4 l) v hh→Fr a N e→Hb C w (hh++(eh++oh)) (Inv G W.φ)→At N C G S' (a.put o.dst v) w:=by
 unfold BR at h
 split at h
 ·exact Gh hn h
 ·exact dz hn h
theorem M3 (hn:c.n=N) {o:Oper} {S1:St} {el:Nat} {t:Ty} {l:List t.den} (h:z_ c o S1 el t l k=some r): ∃ S',k S'=some r∧ ∀ W e eh oh A cc css a w,aZ S1 W e eh oh→0<t.size→l.length≤cc→bz (fun x cs=>Rp W.φ t x cs []) l css→A.isSome=true→Fr a N e→
   (∀ p,Hb C w (.row p (.slice A l.length cc) el t.size l.length css.flatten::(eh++oh)) (Inv G W.φ))→At N C G S' (a.put o.dst (.slice A l.length cc)) w:=by
 have rw_:out c o S1 (.v (.rw el t) l) k=some r→ ∃ S',k S'=some r∧ ∀ W e eh oh A cc css a w,aZ S1 W e eh oh→0<t.size→l.length≤cc→bz (fun x cs=>Rp W.φ t x cs []) l css→A.isSome=true→Fr a N e→
   (∀ p,Hb C w (.row p (.slice A l.length cc) el t.size l.length css.flatten::(eh++oh)) (Inv G W.φ))→At N C G S' (a.put o.dst (.slice A l.length cc)) w:=fun h=>by
  obtain ⟨S',h1,h2⟩:=dz (C:=C) (G:=G) hn h
  refine ⟨S',h1,fun W e eh oh A cc css a w hs h0 g1 g2 _ hf hb=>?_⟩
  obtain ⟨φ',f1,f2,f3⟩:=Aa h0 (hb true)
  exact h2 ⟨φ',W.aA,W.hd⟩ e eh oh _ _ a _ (hs.mono f1) ⟨[.slice A l.length cc],rfl,rfl,A,cc,css,rfl,g1,g2.imp fun _ _ h=>h.mono f1,f2,rfl⟩ hf f3
 unfold z_ at h
 split at h
 ·rename_i d hd
  split at h
  ·obtain ⟨S',h1,h2⟩:=uw (C:=C) (G:=G) hn h
   refine ⟨S',h1,fun W e eh oh A cc css a w hs h0 g1 g2 g3 hf hb=>?_⟩
   rw [hd]
   exact h2 W e eh oh A cc css a w hs g1 g2 (fun _=>g3) hf (hb false)
  ·exact rw_ h
 ·exact rw_ h
theorem OB {α:Type} {l z:List α} (h:Yn l=some z):z=l∧0<l.length:=by
 cases l with
 | nil=>cases h
 | cons x r=>injection h with h;subst h;exact ⟨rfl,by simp⟩
theorem Hl (hn:c.n=N) {x:Operand} {op:Op} (hop:op= .move x∨op= .assign x) (h:zl c ⟨dst,op,ty,pos,af,gd⟩ S x k=some r): ∃ S',k S'=some r∧ ∀ a w,At N C G S a w→gD P N C G ⟨dst,op,ty,pos,af,gd⟩ S' a w:=by
 have ex: ∀ (a:Act) w v,a.eval x=v→(execOp a.eval ⟨dst,op,ty,pos,af,gd⟩).run P w= .ok (.value v) w:=by
  rintro a w v rfl
  rcases hop with rfl | rfl<;>rfl
 unfold zl at h
 cases dst with
 | none=>cases h
 | some d=>
  simp only at h
  split at h
  ·rename_i el t hx ho
   obtain ⟨S',h1,h2⟩:=uw (C:=C) (G:=G) hn h
   refine ⟨S',h1,fun a w ⟨W,e,eh,oh,hs,hf,hb⟩=>?_⟩
   obtain ⟨v,hh,rr,q1,⟨rfl,rfl⟩,_⟩:=fZ hs.env (x:=x) (by rw [hx];intro e;cases e) |>fun ⟨v,hh,rr,q1,q2,q3⟩=>(⟨v,hh,rr,q1,(by rw [hx] at q2;exact q2),q3⟩: ∃ v h r,EV e x v∧(v=Value.slice none 0 0∧h=[])∧eh.Perm (h++r))
   refine .value (ex a w _ (hf.ev q1)) ?_
   exact h2 W e eh oh none 0 [] a w hs (Nat.le_refl _) .nil (fun h=>absurd h (by simp)) hf ((Sub.app (Sub.mZ false el t.size) (Sub.refl _)).hb (by simpa using hb))
  ·rename_i el t hx ho
   obtain ⟨S',h1,h2⟩:=dz (C:=C) (G:=G) hn h
   refine ⟨S',h1,fun a w ⟨W,e,eh,oh,hs,hf,hb⟩=>?_⟩
   obtain ⟨v,hh,rr,q1,⟨rfl,rfl⟩,_⟩:=fZ hs.env (x:=x) (by rw [hx];intro e;cases e) |>fun ⟨v,hh,rr,q1,q2,q3⟩=>(⟨v,hh,rr,q1,(by rw [hx] at q2;exact q2),q3⟩: ∃ v h r,EV e x v∧(v=Value.slice none 0 0∧h=[])∧eh.Perm (h++r))
   refine .value (ex a w _ (hf.ev q1)) ?_
   refine h2 W e eh oh _ [.row true (.slice none 0 0) el t.size 0 []] a w hs ⟨[.slice none 0 0],rfl,rfl,none,0,[],rfl,Nat.le_refl _, .nil,fun h=>absurd h (by simp),rfl⟩ hf ((Sub.app (Sub.mZ true el t.size) (Sub.refl _)).hb (by simpa using hb))
  ·rename_i t hx ho
   obtain ⟨S',h1,h2⟩:=dz (C:=C) (G:=G) hn h
   refine ⟨S',h1,fun a w ⟨W,e,eh,oh,hs,hf,hb⟩=>?_⟩
   obtain ⟨v,hh,rr,q1,⟨rfl,rfl⟩,_⟩:=fZ hs.env (x:=x) (by rw [hx];intro e;cases e) |>fun ⟨v,hh,rr,q1,q2,q3⟩=>(⟨v,hh,rr,q1,(by rw [hx] at q2;exact q2),q3⟩: ∃ v h r,EV e x v∧(v=Value.slice none 0 0∧h=[])∧eh.Perm (h++r))
   refine .value (ex a w _ (hf.ev q1)) ?_
   exact h2 W e eh oh _ [] a w hs ⟨[.slice none 0 0],rfl,rfl,none,0,[],rfl,Nat.le_refl _, .nil,fun h=>absurd h (by simp),rfl,rfl⟩ hf hb
  ·rename_i t2 y t hx ho
   split at h
   case isFalse=>cases h
   case isTrue he=>
   subst he
   obtain ⟨z,hz,hk⟩:=Option.bind_eq_some_iff.1 h
   obtain ⟨hz1,hz2⟩:=OB hz
   have hz1:z=y:=hz1
   subst hz1
   obtain ⟨S',h1,h2⟩:=dz (C:=C) (G:=G) hn hk
   refine ⟨S',h1,fun a w ⟨W,e,eh,oh,hs,hf,hb⟩=>?_⟩
   obtain ⟨v,hh,rr,q1,q2,q3⟩:=fZ hs.env (x:=x) (by rw [hx];intro e;cases e)
   rw [hx] at q2
   obtain ⟨cs,p1,rfl,A,cc,css,rfl,m2,m3,m4,_⟩:=q2
   refine .value (ex a w _ (hf.ev q1)) ?_
   refine h2 W e eh oh _ [] a w hs ⟨_,rfl,rfl,A,cc,css,rfl,m2,m3,m4,?_,rfl⟩ hf hb
   obtain ⟨ad,ha,_⟩:=m4 hz2
   rw [ha]
   cases hz3:z with
   | nil=>rw [hz3] at hz2;exact absurd hz2 (by simp)
   | cons _ _=>rfl
  ·rename_i el t2 y t hx ho
   split at h
   case isFalse=>cases h
   case isTrue he=>
   subst he
   obtain ⟨z,hz,hk⟩:=Option.bind_eq_some_iff.1 h
   obtain ⟨hz1,hz2⟩:=OB hz
   have hz1:z=y:=hz1
   subst hz1
   obtain ⟨S',h1,h2⟩:=dz (C:=C) (G:=G) hn hk
   refine ⟨S',h1,fun a w ⟨W,e,eh,oh,hs,hf,hb⟩=>?_⟩
   obtain ⟨v,hh,rr,q1,q2,q3⟩:=fZ hs.env (x:=x) (by rw [hx];intro e;cases e)
   rw [hx] at q2
   obtain ⟨cs,p1,rfl,A,cc,css,rfl,m2,m3,m4,_⟩:=q2
   refine .value (ex a w _ (hf.ev q1)) ?_
   refine h2 W e eh oh _ [] a w hs ⟨_,rfl,rfl,A,cc,css,rfl,m2,m3,m4,?_,rfl⟩ hf hb
   obtain ⟨ad,ha,_⟩:=m4 hz2
   rw [ha]
   cases hz3:z with
   | nil=>rw [hz3] at hz2;exact absurd hz2 (by simp)
   | cons _ _=>rfl
  ·rename_i t y hx n1 n2
   obtain ⟨S',h1,h2⟩:=Q3 (C:=C) (G:=G) hn h
   refine ⟨S',h1,fun a w ⟨W,e,eh,oh,hs,hf,hb⟩=>?_⟩
   obtain ⟨v,hh,eh',q1,q2,q3,q4⟩:=dn hs hx (by intro e;cases e)
   refine .value (ex a w _ (hf.ev q1)) (h2 W e eh' oh v hh a w q3 q2 hf ?_)
   exact ((Sub.app q4 (Sub.refl oh)).trans (by rw [List.append_assoc];exact Sub.refl _)).hb hb
  ·rename_i l hx
   obtain ⟨S',h1,h2⟩:=dz (C:=C) (G:=G) hn h
   refine ⟨S',h1,fun a w ⟨W,e,eh,oh,hs,hf,hb⟩=>?_⟩
   obtain ⟨v,hh,eh',q1,q2,q3,q4⟩:=dn hs hx (by intro e;cases e)
   refine .value (ex a w _ (hf.ev q1)) (h2 W e eh' oh v hh a w q3 q2 hf ?_)
   exact ((Sub.app q4 (Sub.refl oh)).trans (by rw [List.append_assoc];exact Sub.refl _)).hb hb
  ·rename_i j p off hx
   obtain ⟨S',h1,h2⟩:=dz (C:=C) (G:=G) hn h
   refine ⟨S',h1,fun a w ⟨W,e,eh,oh,hs,hf,hb⟩=>?_⟩
   obtain ⟨v,hh,eh',q1,q2,q3,q4⟩:=dn hs hx (by intro e;cases e)
   refine .value (ex a w _ (hf.ev q1)) (h2 W e eh' oh v hh a w q3 q2 hf ?_)
   exact ((Sub.app q4 (Sub.refl oh)).trans (by rw [List.append_assoc];exact Sub.refl _)).hb hb
  ·cases h
theorem ji.take {φ:bL} {L:List Dn} {vs:List Value} {h:List Chunk} (ht:ji φ L vs h) {i:Nat} {t:Ty} {x:t.den} {y:t.er.den} (hi:L[i]? =some ⟨t,x⟩) (hy:coe t t.er x=some y):
  ∃ cs h1 h',Ig vs i (sv t cs)∧t.top=true∧Rp φ t x cs h1∧ji φ (L.set i ⟨t.er,y⟩) vs h'∧Sub h (h1++h'):=by
 induction ht generalizing i with
 | nil=>simp at hi
 | @cons t' x' cs h hs l vs h1 h2 h3 ih=>
  cases i with
  | zero=>
   simp only [List.getElem?_cons_zero,Option.some.injEq] at hi
   injection hi with e1 e2
   subst e1
   have e2:=eq_of_heq e2
   subst e2
   obtain ⟨h4,r1,_⟩:=eP hy h2
   have:=Rp.aP (Ty.f_ _).symm r1
   subst this
   refine ⟨cs,h,[]++hs, .here,h1,h2,?_,Sub.refl _⟩
   rw [qI hy cs]
   exact ji.cons (jN hy h1) r1 h3
  | succ i=>
   obtain ⟨cs',h4,h5,q1,q2,q3,q4,q5⟩:=ih (by simpa using hi)
   refine ⟨cs',h4,h++h5, .skip q1,q2,q3,ji.cons h1 h2 q4,?_⟩
   exact (Sub.app (Sub.refl h) q5).trans (Sub.perm (List.perm_append_comm_assoc _ _ _))
theorem H5 (hn:c.n=N) {x:Operand} {i:Nat} (h:sW c ⟨dst, .extract x i,ty,pos,af,gd⟩ S x i k=some r): ∃ S',k S'=some r∧ ∀ a w,At N C G S a w→gD P N C G ⟨dst, .extract x i,ty,pos,af,gd⟩ S' a w:=by
 unfold sW at h
 split at h<;>first | cases h | skip
 rename_i s
 split at h<;>first | cases h | skip
 rename_i L hl
 split at h<;>first | cases h | skip
 rename_i t y hi
 cases htop:t.top with
 | false=>rw [htop] at h;cases h
 | true=>
  rw [htop] at h
  simp only [cond_true] at h
  split at h
  ·rename_i y' hy
   obtain ⟨S',h1,h2⟩:=Gh (C:=C) (G:=G) hn h
   refine ⟨S',h1,fun a w ⟨W,e,eh,oh,hs,hf,hb⟩=>?_⟩
   obtain ⟨v,h3,rr,q1,⟨vs,rfl,q2⟩,q3,q4⟩:=hs.env.swap hl
   obtain ⟨cs,h4,h5,g1,g2,g3,g4,g5⟩:=q2.take hi hy
   obtain ⟨eh',k1,k2⟩:=q4 (.BQ (L.set i ⟨t.er,y'⟩)) h5 ⟨vs,rfl,g4⟩
   have hrun:=R.ex (P:=P) (N:=N) (C:=C) (e:=e) (hs:=eh++oh) (I:=Inv G W.φ) (d:=dst) (ty:=ty) (pos:=pos) (af:=af) (gd:=gd) (.t q1) g1
   refine .value (hrun a w hf hb) (h2 W e eh' oh _ h4 a w ⟨k1,hs.l9,hs.nd⟩ ⟨cs,g2,rfl,g3⟩ hf ?_)
   refine (Sub.app ((Sub.perm q3).trans ((Sub.app g5 (Sub.refl rr)).trans ?_)) (Sub.refl oh) |>.trans (by rw [List.append_assoc];exact Sub.refl _)).hb hb
   rw [List.append_assoc]
   exact Sub.app (Sub.refl h4) (Sub.perm k2.symm)
  ·cases h
end
end Go.Lf
/-
  Operations that turn more than their slot: loads that take, stores, new blocks.
-/
namespace Go.Lf
open Go Go.iM
section
variable {P:Program} {N:Nat} {C:Cx} {G:World→Prop} {c:Ctx} {S:St} {Rt:Type} {k:St→Option Rt} {r:Rt} {a:Act} {w:World}
variable {W:d_} {e:Env} {eh oh:List Chunk} {dst:Option Tmp} {ty:TypeId} {pos:String} {af:Array Edge} {gd:Option (Nat×Bool)}
theorem DD {A h r:List Chunk} {h1 h3:List Chunk}:(A++(h1++h++h3)++r).Perm (h++(A++(h1++[]++h3)++r)):=by
 simp only [List.append_assoc,List.nil_append]
 refine List.Perm.trans ?_ (List.perm_append_comm_assoc _ _ _)
 exact List.Perm.append_left _ (List.perm_append_comm_assoc _ _ _)
theorem Jv (hc:aO P G c) {tid:Nat} {x:Operand} {j off n sz qo:Nat} {p q:List Dir} {o:Oper} (hop:o.op= .load tid x) (hx:S.get x= .xZ j p off n sz q qo) (h:loadT c o S tid k (.xZ j p off n sz q qo)=some r):
  ∃ (S1:St) (D':D),out c o S1 D' k=some r∧S1.env=S.env∧ ∀ W e eh oh,aZ S W e eh oh→ ∃ v hh oh1,aZ S1 W e eh oh1∧DR W D' v hh∧(eh++oh).Perm (hh++(eh++oh1))∧ ∀ a w,Fr a N e→Hb C w (eh++oh) (Inv G W.φ)→(execOp a.eval o).run P w= .ok (.value v) w:=by
 simp only [loadT] at h
 split at h
 case h_2=>cases h
 case h_1 ob el a t x0 i hob hat hi=>
 cases hb:(Nat.beq t.size sz && Nat.beq (aH t q) qo) with
 | false=>rw [hb] at h;cases h
 | true=>
 rw [hb] at h
 simp only [cond_true] at h
 simp only [Bool.and_eq_true] at hb
 have hsz:=Nat.eq_of_beq_eq_true hb.1
 have hqo:=Nat.eq_of_beq_eq_true hb.2
 obtain ⟨u0,hu0,h⟩:=Option.bind_eq_some_iff.1 h
 obtain ⟨y0,rfl,rfl,rfl⟩:=JY hu0
 split at h
 case h_2=>cases h
 case h_1 s y hg=>
 split at h
 case isFalse=>cases h
 case isTrue he=>
 cases htop:s.top with
 | false=>rw [htop] at h;cases h
 | true=>
 rw [htop] at h
 simp only [cond_true] at h
 split at h
 case h_2=>cases h
 case h_1 y' hy'=>
 split at h
 case h_2=>cases h
 case h_1 t' e' hst=>
 split at h
 case h_2=>cases h
 case h_1 z hset=>
 refine ⟨_,_,h,rfl,fun W e eh oh hs=>?_⟩
 obtain ⟨ob2,a1,a2,a3⟩:=zO hat
 have he2:ob2=ob:=Option.some.inj (a1.symm.trans hob)
 subst he2
 obtain ⟨h0,rr,⟨hc0,b1,b2⟩,b3,b4,_⟩:=hs.l9.set hs.nd hob
 obtain ⟨pre,mid,post,k1,k2,k3,s0,g0,g1,g2,g3,g4,g5,g6,g7,g8⟩:=iC hset b1
 have hs0:s0=⟨.ml el a t,some y0⟩:=Option.some.inj (g0.symm.trans a3)
 subst hs0
 obtain ⟨A,cc,css,ce,he0,m1,m2,m3,m4,m5,m6⟩:=id g5
 have m1:mid=[.slice (some A) (y0.1.length+1) cc]:=m1
 have m6:k2=[.row false (.slice (some A) (y0.1.length+1) cc) el t.size (y0.1.length+1) (css.flatten++ce)]++he0:=m6
 obtain ⟨pre2,mid2,post2,y1,y2,y3,s1,f0,f1,f2,f3,f4,f5,f6,f7,f8⟩:=iC hst m4
 have hs1:s1=⟨s,y⟩:=Option.some.inj (f0.symm.trans hg)
 subst hs1
 obtain ⟨h'',r1,_⟩:=eP hy' f5
 have:=Rp.aP (Ty.f_ s).symm r1
 subst this
 have hts:t'.size=t.size:=by rw [← Ty.aF t',f6,Ty.aF]
 have hel:=f8 W.φ mid2 [] W.φ.le_refl r1
 rw [← f2] at hel
 have hnew:Rp W.φ (.ml el a t') (some (y0.1,e')) mid ([.row false (.slice (some A) (y0.1.length+1) cc) el t.size (y0.1.length+1) (css.flatten++ce)]++(y1++[]++y3)):=
  ⟨A,cc,css,ce,_,m1,m2,m3,hel,by rw [m5,f6],by rw [hts];rfl⟩
 have hz:=g8 W.φ mid _ W.φ.le_refl hnew
 rw [← g2] at hz
 obtain ⟨hs',w1,w2⟩:=b4 W.φ (W.hd j) ⟨ob2.tid,z.1,z.2⟩ (eO W j ob2.tid (W.hd j)++(k1++([.row false (.slice (some A) (y0.1.length+1) cc) el t.size (y0.1.length+1) (css.flatten++ce)]++(y1++[]++y3))++k3)) W.φ.le_refl ⟨_,by rw [upd_same];exact hz,by rw [upd_same];unfold eO;cases ob2.tid<;>rfl⟩
 rw [upd_same] at w1
 have b2':h0=eO W j ob2.tid (W.hd j)++(k1++k2++k3):=by rw [b2,g4];unfold eO;cases ob2.tid<;>rfl
 obtain ⟨v,h',hx1,A0,mm,cc0,n1,rfl,_⟩:=bY hs.env hx (by intro e;cases e)
 have hcl:(W.hd j)[off]? =some (.slice (some A) (y0.1.length+1) cc):=by rw [g2, ← a2, ← g3,m1];simp
 rw [hcl] at n1
 simp only [Option.some.injEq,Value.slice.injEq] at n1
 obtain ⟨rfl,_,_⟩:=n1
 have hrow:Chunk.row false (.slice (some A) (y0.1.length+1) cc) el t.size (y0.1.length+1) (css.flatten++ce)∈eh++oh:=by
  refine List.mem_append_right _ (b3.mem_iff.2 ?_)
  rw [b2',m6]
  simp
 have hall: ∀ cx∈css,cx.length=t.size:=fun cx hcx=>by rw [AA m3 cx hcx,m5,Ty.aF]
 have hfl:css.flatten.length=y0.1.length*t.size:=by rw [fI css hall,m3.length]
 have hcell: ∀ w,Hb C w (eh++oh) (Inv G W.φ)→ ∀ j2 u,mid2[j2]? =some u→EM w (some A) (y0.1.length*sz+qo+j2) u:=fun w hb2 j2 u hu=>by
  have hr:w.ownsRow 0 el t.size (.slice (some A) (y0.1.length+1) cc) (y0.1.length+1) (css.flatten++ce):=hb2.hp.hold _ hrow
  refine (Rd.Al hr).cell ?_
  rw [← hsz, ← hqo, ← f3, ← hfl,show css.flatten.length+pre2.length+j2=css.flatten.length+(pre2.length+j2) by omega,List.getElem?_append_right (by omega),show css.flatten.length+(pre2.length+j2) - css.flatten.length=pre2.length+j2 by omega,f2,List.append_assoc,List.getElem?_append_right (by omega),show pre2.length+j2 - pre2.length=j2 by omega,List.getElem?_append_left (by exact (List.getElem?_eq_some_iff.1 hu).1)]
  exact hu
 have hrun: ∀ a0 w,Fr a0 N e→Hb C w (eh++oh) (Inv G W.φ)→(execOp a0.eval o).run P w= .ok (.value (sv s mid2)) w:=by
  intro a0 w hf hb2
  obtain ⟨dst,op,ty,pos,af,gd⟩:=o
  simp only at hop
  subst hop
  have hpt:(Value.pointer (some (A.add (y0.1.length*sz+qo))))=QP (some A) (y0.1.length*sz+qo):=rfl
  rw [hpt] at hx1
  rcases kv htop f5 with ⟨t',e1,e2⟩ | ⟨e1,v,e2,e3⟩
  ·rw [e2]
   have hi2:i.ty= .st t'.er:=by rw [← he,e1];rfl
   have:=(hc.ty _ _ hi).QV _ hi2
   have hlen:mid2.length=t'.er.size:=by rw [f5.len];show s.size=_;rw [e1,Ty.aF];rfl
   exact R.Rh (by rw [← hlen] at this;exact this) rfl hx1 (fun _ _=>by simp) (fun w hb2 j2 u hu=>hcell w hb2 j2 u hu) a0 w hf hb2
  ·rw [e3]
   subst e2
   exact R.Yz ((hc.ty _ _ hi).sc (fun t' e=>by rw [← he] at e;obtain ⟨t0,e5,_⟩:=Jt e;exact e1 _ e5)) hx1 (fun w hb2=>by simpa using hcell w hb2 0 v rfl) a0 w hf hb2
 refine ⟨sv s mid2,y2,hs',⟨hs.env,w1,?_⟩,⟨mid2,htop,rfl,f5⟩,?_,hrun⟩
 ·rw [mK _ _ _ (jF hob)]
  exact hs.nd
 ·rw [b2',m6,f4] at b3
  classical
  rw [List.perm_iff_count]
  intro c0
  have q1:=(List.perm_iff_count.1 b3) c0
  have q2:=(List.perm_iff_count.1 w2) c0
  simp only [List.count_append,List.count_nil] at q1 q2 ⊢
  omega
theorem P8 (hc:aO P G c) (hn:c.n=N) {tid:Nat} {x:Operand} (h:loadT c ⟨dst, .load tid x,ty,pos,af,gd⟩ S tid k (S.get x)=some r): ∃ S',k S'=some r∧ ∀ a w,At N C G S a w→gD P N C G ⟨dst, .load tid x,ty,pos,af,gd⟩ S' a w:=by
 generalize hx:S.get x=dx at h
 unfold loadT at h
 split at h
 case h_3=>cases h
 case h_1 j p off n sz q qo=>
  obtain ⟨S1,D',q1,_,q3⟩:=Jv (N:=N) (C:=C) hc rfl hx h
  obtain ⟨S',h1,h2⟩:=dz (C:=C) (G:=G) hn q1
  refine ⟨S',h1,fun a w ⟨W,e,eh,oh,hs,hf,hb⟩=>?_⟩
  obtain ⟨v,hh,oh1,g1,g2,g3,g4⟩:=q3 W e eh oh hs
  exact .value (g4 a w hf hb) (h2 W e eh oh1 v hh a w g1 g2 hf (hb.perm g3))
 case h_2 j p off=>
 split at h<;>first | cases h | skip
 rename_i t y i hat hi
 split at h
 case isFalse=>cases h
 case isTrue he=>
 cases htop:t.top with
 | false=>rw [htop] at h;cases h
 | true=>
  rw [htop] at h
  simp only [cond_true] at h
  split at h
  case h_2=>cases h
  case h_1 y' hy=>
  split at h
  case h_2=>cases h
  case h_1 S1 hset=>
  obtain ⟨S',h1,h2⟩:=dz (C:=C) (G:=G) hn h
  refine ⟨S',h1,fun a w ⟨W,e,eh,oh,hs,hf,hb⟩=>?_⟩
  obtain ⟨tb,pre,mid,post,hm,q1,q2,q3,q4,_⟩:=gX hs.l9 hat
  obtain ⟨ob,pre2,mid2,post2,k1,k2,k3,rr,s,g1,g2,g3,g4,g5,g6,g7,g8⟩:=pW hset hs
  have hat2:=(uA hat).1
  have hs2:s=⟨t,y⟩:=Option.some.inj (g2.symm.trans hat2)
  subst hs2
  have hinj:=Bq (q1.symm.trans g4) (q2.trans g5.symm) (by rw [q3.len,g6.len])
  obtain ⟨rfl,rfl,rfl⟩:=hinj
  obtain ⟨h',r1,_⟩:=eP hy g6
  have:=Rp.aP (Ty.f_ t).symm r1
  subst this
  obtain ⟨oh',w1,w2⟩:=g8 W.φ mid [] W.φ.le_refl r1
  rw [← g4,upd_same] at w1
  rw [← g4] at w2
  have hrun:(execOp a.eval ⟨dst, .load tid x,ty,pos,af,gd⟩).run P w= .ok (.value (sv t mid)) w:=by
   rcases kv htop g6 with ⟨t',e1,e2⟩ | ⟨e1,v,e2,e3⟩
   ·rw [e2]
    have hi2:i.ty= .st t'.er:=by rw [← he,e1];rfl
    have h5:=(hc.ty _ _ hi).QV _ hi2
    have hlen:mid.length=t'.er.size:=by rw [g6.len];show t.size=_;rw [e1,Ty.aF];rfl
    exact R.XC (n:=mid.length) (by rw [hlen];exact h5) (bI hs.env hx) (List.mem_append_right _ q4) (by rw [q1, ← q2];exact Cc _ _ _) a w hf hb
   ·rw [e3]
    subst e2
    exact R.ld ((hc.ty _ _ hi).sc (fun t' e=>by rw [← he] at e;obtain ⟨t0,e5,_⟩:=Jt e;exact e1 _ e5)) (bI hs.env hx) (List.mem_append_right _ q4) (by rw [q1, ← q2];simp) a w hf hb
  refine .value hrun (h2 W e eh oh' _ k2 a w w1 ⟨mid,htop,rfl,g6⟩ hf ?_)
  refine ((Sub.app (Sub.refl eh) ((Sub.perm g7).trans ((Sub.perm (DD)).trans (Sub.app (Sub.refl k2) (Sub.perm w2.symm))))).trans (Sub.perm (List.perm_append_comm_assoc _ _ _))).hb hb
theorem run_store {t g tb o:Nat} {x y:Operand} {v:Value} {vs pre mid post:List Value} (ht:Bw P t vs.length=true) (hx:a.eval x= .pointer (some ⟨g,o,none⟩)) (hy:a.eval y=v) (hv:v.cells=vs.toArray) (h1: ∀ u∈vs,u.oneCell'=true)
  (hh:(blk g tb (pre++mid++post)).holds w) (ho:pre.length=o) (hm:mid.length=vs.length):
  (execOp a.eval ⟨dst, .store t x y,ty,pos,af,gd⟩).run P w= .ok .skip (w.setRow g (pre++vs++post).toArray):=by
 have hg:w.heap[g]? =some (.cells (pre++mid++post).toArray tb (0,0)):=hh
 subst ho
 have hr0:=run_storeCells_at (P:=P) g pre.length tb vs 0 (pre++mid++post).toArray w hg (by simp;omega) h1
 have hl:(List.take (pre.length+0) (pre++mid++post).toArray.toList++vs++List.drop (pre.length+0+vs.length) (pre++mid++post).toArray.toList)=pre++vs++post:=by
  simp only [Nat.add_zero]
  rw [← hm]
  rw [List.append_assoc pre mid post,List.take_left,List.drop_append,List.drop_eq_nil_of_le (by omega),show pre.length+mid.length - pre.length=mid.length by omega,List.drop_left]
  simp
 rw [hl] at hr0
 simp [execOp,hx,hy,Instr.storeAt,Instr.sureAddr,storeVar,bG ht,hv,hr0]
theorem uk {g t:Nat} {l:List Value} {l':Array Value} (_h:(blk g t l).holds w):Ext (fun _=>none) [blk g t l] w (w.setRow g l'):=by
 have hk: ∀ k,k≠g→(w.setRow g l').heap[k]? =w.heap[k]? :=fun k hne=>by
  simp only [World.setRow,Array.getElem?_modify]
  rw [if_neg (fun e=>hne e.symm)]
 refine ⟨rfl,rfl,rfl,by simp [World.setRow],fun k _ _ hf=>hk k fun e=>hf (blk g t l) (by simp) (by rw [e];rfl),fun _ _ _ h _=>(by cases h),fun d hd k hk2 _=>?_⟩
 have:d=blk g t l:=by simpa using hd
 subst this
 exact Same.zero
theorem qa {g t:Nat} {l l':List Value} (h:(blk g t l).holds w):(blk g t l').holds (w.setRow g l'.toArray):=by
 have h1:w.heap[g]? =some (.cells l.toArray t (0,0)):=h
 show (w.setRow g l'.toArray).heap[g]? =_
 simp [World.setRow,Array.getElem?_modify,h1]
theorem rA {j:Nat} {p:List Dir} {o:Nat} {y:Dn} {S':St} {tid:Nat} {x z:Operand} {v:Value} {vs:List Value} {hv:List Chunk} (hset:S.w9 j p o y=some S') (hs:aZ S W e eh oh) (hf:Fr a N e)
  (hcell: ∃ ob tb,look S.az j=some ob∧ob.tid=some tb)
  (hx:EV e x (.pointer (some ⟨W.aA j,o,none⟩))) (hz:EV e z v) (hvc:v.cells=vs.toArray) (hr:Rp W.φ y.1 y.2 vs hv) (ht:Bw P tid y.1.size=true) (hb:Hb C w (hv++(eh++oh)) (Inv G W.φ)):
  gD P N C G ⟨none, .store tid x z,ty,pos,af,gd⟩ S' a w:=by
 obtain ⟨ob,pre,mid,post,h1,h2,h3,rr,s,g1,g2,g3,g4,g5,g6,g7,g8⟩:=pW hset hs
 obtain ⟨ob2,tb,hob,htb⟩:=hcell
 have he:ob2=ob:=Option.some.inj (hob.symm.trans g1)
 subst he
 rw [htb] at g7 g8
 obtain ⟨oh',w1,w2⟩:=g8 W.φ vs hv W.φ.le_refl hr
 have hml:mid.length=vs.length:=by rw [g6.len,hr.len, ← Ty.aF s.1, ← g3,Ty.aF]
 rw [g4] at g7
 have hb1:Hb C w (blk (W.aA j) tb (pre++mid++post)::(eh++(h1++hv++h3)++rr)) (Inv G W.φ):=by
  refine ((Sub.app (Sub.refl hv) (Sub.app (Sub.refl eh) ((Sub.perm g7).trans (Sub.app (Sub.app (Sub.refl _) (Sub.app (Sub.app (Sub.refl h1) (Sub.nil h2)) (Sub.refl h3))) (Sub.refl rr))))).trans (Sub.perm ?_)).hb hb
  simp only [eO,List.append_assoc,List.nil_append,List.cons_append]
  refine (List.perm_append_comm_assoc _ _ _).trans ?_
  refine (List.Perm.append_left eh (List.perm_middle (l₁:=hv))).trans ?_
  refine (List.perm_middle (l₁:=eh)).trans (List.Perm.cons _ (List.Perm.append_left eh ?_))
  exact List.perm_append_comm_assoc _ _ _
 have hh:=hb1.hp.hold _ List.mem_cons_self
 have hrun:=run_store (P:=P) (dst:=none) (ty:=ty) (pos:=pos) (af:=af) (gd:=gd) (t:=tid) (by rw [hr.len];exact ht) (hf.ev hx) (hf.ev hz) hvc hr.one hh g5 hml
 refine .skip hrun ⟨_,e,eh,oh',w1,hf,?_⟩
 have hb2:=hb1.turn (uk hh) (qa (l':=pre++vs++post) hh) (fun g hg=> .inl ⟨hg,Nat.zero_le _⟩)
 refine (Sub.perm ?_).hb hb2
 have:=(w2.append_left eh).symm
 refine List.Perm.trans ?_ this
 simp only [eO,List.append_assoc,List.cons_append,List.nil_append]
 exact (List.perm_middle (l₁:=eh)).symm
end
section
variable {P:Program} {N:Nat} {C:Cx} {G:World→Prop} {c:Ctx} {S:St} {W:d_} {e:Env} {eh oh:List Chunk}
theorem Dh {φ:bL} {id g off:Nat} {i:HV} {t:Ty} {y:t.den} {pre mid post:List Value} {hm:List Chunk} (ho:GK P id i) (he:t.er=i.ty) (r:Rp φ t y mid hm) (ht:t.top=true∨ ∃ el a,t= .mr el a) (hp:pre.length=off) {w:World} {tb:Nat} (hb:(blk g tb (pre++mid++post)).holds w):
  (loadVar id ⟨g,off,none⟩).run P w= .ok (sv t mid) w:=by
 have hcell: ∀ j v,mid[j]? =some v→w.cell? ((⟨g,off,none⟩:Addr).add j)=some v:=fun j v hj=>by
  have h1:=rT (j:=off+j) (v:=v) hb (by
   rw [← hp,List.append_assoc,List.getElem?_append_right (by omega),show pre.length+j - pre.length=j by omega,List.getElem?_append_left (List.getElem?_eq_some_iff.1 hj).1]
   exact hj)
  unfold Addr.add
  split
  ·rename_i hj0;subst hj0;simpa using h1
  ·exact h1
 have one:(∀ t',t≠ .st t')→ ∀ v,mid=[v]→sv t mid=v→(loadVar id ⟨g,off,none⟩).run P w= .ok (sv t mid) w:=fun e1 v e2 e3=>by
  rw [e3]
  have h0:=hcell 0 v (by rw [e2];rfl)
  exact lL (ho.sc (fun t' e=>by rw [← he] at e;obtain ⟨t0,e5,_⟩:=Jt e;exact e1 _ e5)) h0
 rcases ht with ht | ⟨el,a,rfl⟩
 ·rcases kv ht r with ⟨t',e1,e2⟩ | ⟨e1,v,e2,e3⟩
  ·rw [e2]
   have hi2:i.ty= .st t'.er:=by rw [← he,e1];rfl
   have h5:=ho.QV _ hi2
   have hlen:mid.length=t'.er.size:=by rw [r.len];show t.size=_;rw [e1,Ty.aF];rfl
   exact qW (by rw [hlen];exact h5) hcell
  ·exact one e1 v e2 e3
 ·obtain ⟨A,cc,css,rfl,_⟩:=r
  exact one (fun t' e=>by cases e) _ rfl rfl
theorem Lh {j off:Nat} {p:List Dir} {t:Ty} {y:t.den} {y':t.er.den} {S1:St} {id:Nat} {i:HV} (ho:GK P id i) (hat:S.ED j p off=some ⟨t,y⟩) (he:t.er=i.ty) (htop:t.top=true) (hy:coe t t.er y=some y') (hset:S.w9 j p off ⟨t.er,y'⟩=some S1) (hs:aZ S W e eh oh):
  ∃ mid hm oh',Rp W.φ t y mid hm∧aZ S1 W e eh oh'∧oh.Perm (hm++oh')∧ ∀ w,Hb C w (eh++oh) (Inv G W.φ)→(loadVar id ⟨W.aA j,off,none⟩).run P w= .ok (sv t mid) w:=by
 obtain ⟨tb,pre,mid,post,hm,q1,q2,q3,q4,_⟩:=gX hs.l9 hat
 obtain ⟨ob,pre2,mid2,post2,k1,k2,k3,rr,s,g1,g2,g3,g4,g5,g6,g7,g8⟩:=pW hset hs
 have hat2:=(uA hat).1
 have hs2:s=⟨t,y⟩:=Option.some.inj (g2.symm.trans hat2)
 subst hs2
 have hinj:=Bq (q1.symm.trans g4) (q2.trans g5.symm) (by rw [q3.len,g6.len])
 obtain ⟨rfl,rfl,rfl⟩:=hinj
 obtain ⟨h',r1,_⟩:=eP hy g6
 have:=Rp.aP (Ty.f_ t).symm r1
 subst this
 obtain ⟨oh',w1,w2⟩:=g8 W.φ mid [] W.φ.le_refl r1
 rw [← g4,upd_same] at w1
 rw [← g4] at w2
 refine ⟨mid,k2,oh',g6,w1,g7.trans ((by simpa using DD (A:=eO W j ob.tid (W.hd j)):List.Perm _ _).trans (List.Perm.append_left k2 w2.symm)),fun w hb=>?_⟩
 refine Dh ho he g6 (.inl htop) g5 (tb:=tb) (pre:=pre) (post:=post) ?_
 rw [← g4]
 exact hb.has (List.mem_append_right _ q4)
end
end Go.Lf
/-
  Operations that turn more than their slot: stores, new objects.
-/
namespace Go.Lf
open Go Go.iM
section
variable {P:Program} {N:Nat} {C:Cx} {G:World→Prop} {c:Ctx} {S:St} {Rt:Type} {k:St→Option Rt} {r:Rt} {a:Act} {w:World}
variable {W:d_} {e:Env} {eh oh:List Chunk} {dst:Option Tmp} {ty:TypeId} {pos:String} {af:Array Edge} {gd:Option (Nat×Bool)}
theorem CU {φ:bL} {t:Ty} {y:Dn} (h:Jp t=some y): ∃ h0,Rp φ y.1 y.2 [.slice none 0 0] h0∧Sub [] h0∧y.1.er=t.er∧y.1.size=1:=by
 unfold Jp at h
 split at h
 case h_6=>cases h
 all_goals
  simp only [Option.some.injEq] at h
  subst h
 ·exact ⟨_,⟨none,0,[],rfl,Nat.le_refl _, .nil,fun h=>absurd h (by simp),rfl⟩,Sub.mZ false _ _,rfl,rfl⟩
 ·exact ⟨[],⟨none,0,[],rfl,Nat.le_refl _, .nil,fun h=>absurd h (by simp),rfl⟩,Sub.refl _,rfl,rfl⟩
 ·exact ⟨_,⟨none,0,[],rfl,Nat.le_refl _, .nil,fun h=>absurd h (by simp),rfl⟩,Sub.mZ true _ _,rfl,rfl⟩
 ·exact ⟨_,⟨none,0,[],rfl,Nat.le_refl _, .nil,fun h=>absurd h (by simp),rfl⟩,Sub.mZ false _ _,rfl,rfl⟩
 ·exact ⟨[],⟨rfl,rfl⟩,Sub.refl _,rfl,rfl⟩
theorem CP {x:Operand} {t:Ty} {y:t.den} {d:D} (hs:ay W S.env e eh) (hd:S.raw x=d) (ha:gy t d=some y) (hf:t=t.er): ∃ cs v,EV e x v∧v.cells=cs.toArray∧Rp W.φ t y cs []∧v=sv t cs∧t.top=true:=by
 have hne:d≠ .und:=fun e=>by rw [e] at ha;cases ha
 obtain ⟨v,h1,r,q1,q2,q3⟩:=fZ hs (x:=x) (by rw [hd];exact hne)
 rw [hd] at q2
 unfold gy at ha
 split at ha
 ·rename_i t' x'
  obtain ⟨cs,g1,rfl,g3⟩:=q2
  obtain ⟨h',r1,_⟩:=eP ha g3
  have:=Rp.aP hf r1
  subst this
  have htop:=jN ha g1
  exact ⟨cs,_,q1,by rw [qI ha cs];exact jX htop r1,r1,qI ha cs,htop⟩
 ·obtain ⟨rfl,_⟩:=q2
  split at ha
  case h_4=>cases ha
  case h_1=>
   simp only [Option.some.injEq] at ha
   subst ha
   exact ⟨[.slice none 0 0],_,q1,rfl,⟨none,0,[],rfl,Nat.le_refl _, .nil,fun h=>absurd h (by simp),rfl⟩,rfl,rfl⟩
  all_goals simp [Ty.er] at hf
 ·obtain ⟨rfl,_⟩:=q2
  split at ha
  case h_3=>cases ha
  case h_1=>
   simp only [Option.some.injEq] at ha
   subst ha
   exact ⟨[.nilIface],_,q1,rfl,⟨rfl,rfl⟩,rfl,rfl⟩
  case h_2=>
   simp only [Option.some.injEq] at ha
   subst ha
   exact ⟨[.nilIface],_,q1,rfl,⟨⟨_,rfl,rfl⟩,rfl⟩,rfl,rfl⟩
 ·obtain ⟨rfl,_⟩:=q2
  split at ha
  case h_3=>cases ha
  case h_2=>simp [Ty.er] at hf
  case h_1=>
   simp only [Option.some.injEq] at ha
   subst ha
   exact ⟨[.pointer none],_,q1,rfl,⟨rfl,rfl⟩,rfl,rfl⟩
 ·obtain ⟨ad,cs,rfl,g1,g2,_⟩:=q2
  split at ha
  ·split at ha
   ·rename_i e
    subst e
    simp only [Option.some.injEq] at ha
    subst ha
    exact ⟨[.pointer (some ad)],_,q1,rfl,⟨rfl,ad,cs,rfl,g1,g2⟩,rfl,rfl⟩
   ·cases ha
  ·split at ha
   ·rename_i e
    subst e
    simp only [Option.some.injEq] at ha
    subst ha
    exact ⟨[.pointer (some ad)],_,q1,rfl,⟨ad,cs,rfl,g1,g2,rfl⟩,rfl,rfl⟩
   ·cases ha
  ·cases ha
 ·cases ha
theorem BV {j:Nat} {p:List Dir} {off:Nat} {y:Dn} (h:FV S j p off y k=some r): ∃ S',S.w9 j p off y=some S'∧k S'=some r∧ ∃ ob tb,look S.az j=some ob∧ob.tid=some tb:=by
 unfold FV at h
 split at h
 ·rename_i y0 S1 h1 h2
  obtain ⟨_,ob,tb,g1,g2⟩:=uA h1
  exact ⟨S1,h2,h,ob,tb,g1,g2⟩
 ·cases h
theorem Kz (x:Operand):(S.strip x).az=S.az:=by
 unfold St.strip
 split
 ·split<;>rfl
 ·rfl
theorem N8 {s:Nat} {css:List (List Value)} {n:Nat} {pre mid post vs:List Value} (hall: ∀ c∈css,c.length=s) (hn:css[n]? =some (pre++mid++post)) (hv:vs.length=mid.length):
  (css.set n (pre++vs++post)).flatten=css.flatten.take (n*s+pre.length)++vs++css.flatten.drop (n*s+pre.length+vs.length)∧n*s+pre.length+vs.length≤css.flatten.length:=by
 have hlt:=(List.getElem?_eq_some_iff.1 hn).1
 have hm:(pre++mid++post).length=s:=hall _ (List.mem_of_getElem? hn)
 have hm2:(pre++vs++post).length=s:=by simp only [List.length_append] at hm ⊢;omega
 have hself:css.set n (pre++mid++post)=css:=by
  apply List.ext_getElem?
  intro i
  rw [List.getElem?_set]
  split
  ·rename_i he;subst he;first | rw [if_pos hlt,hn] | rw [hn]
  ·rfl
 have h1:=CX css hall n (pre++vs++post) hlt hm2
 have h2:=CX css hall n (pre++mid++post) hlt hm
 rw [hself] at h2
 have hA:(css.flatten.take (n*s)).length=n*s:=by
  rw [List.length_take,fI css hall]
  have:n*s≤css.length*s:=Nat.mul_le_mul_right _ (by omega)
  omega
 rw [h1]
 constructor
 ·have e1:css.flatten.take (n*s+pre.length)=css.flatten.take (n*s)++pre:=by
   have:css.flatten=(css.flatten.take (n*s)++pre)++(mid++post++css.flatten.drop (n*s+s)):=by
    rw [List.append_assoc, ← List.append_assoc pre, ← List.append_assoc pre, ← List.append_assoc]
    exact h2
   have h3:(css.flatten.take (n*s)++pre).length=n*s+pre.length:=by rw [List.length_append,hA]
   exact (congrArg (List.take (n*s+pre.length)) this).trans (List.take_left' h3)
  have e2:css.flatten.drop (n*s+pre.length+vs.length)=post++css.flatten.drop (n*s+s):=by
   have:css.flatten=(css.flatten.take (n*s)++pre++mid)++(post++css.flatten.drop (n*s+s)):=by
    rw [← List.append_assoc]
    simpa [List.append_assoc] using h2
   have h3:(css.flatten.take (n*s)++pre++mid).length=n*s+pre.length+vs.length:=by rw [List.length_append,List.length_append,hA,hv]
   exact (congrArg (List.drop (n*s+pre.length+vs.length)) this).trans (List.drop_left' h3)
  rw [e1,e2]
  simp
 ·have:=congrArg List.length h2
  simp only [List.length_append] at this
  rw [hA] at this
  rw [this,hv]
  omega
theorem zZ {φ:bL} {A0:Addr} {n0 cc el s off:Nat} {xs vs:List Value} {rest:List Chunk} (hb:Hb C w (.row false (.slice (some A0) n0 cc) el s n0 xs::rest) (Inv G φ)) (h1: ∀ u∈vs,u.oneCell'=true) (hl:off+vs.length≤xs.length):
  ∃ w',(storeCells (A0.add off) vs).run P w= .ok () w'∧Hb C w' (.row false (.slice (some A0) n0 cc) el s n0 (xs.take off++vs++xs.drop (off+vs.length))::rest) (Inv G φ):=by
 have hown:w.ownsRow 0 el s (.slice (some A0) n0 cc) n0 xs:=hb.hp.hold _ List.mem_cons_self
 rcases hown.2 with ⟨hv,_⟩ | ⟨g,cap,cur,hv,_,hg,hnc,hcm,hcs,htk⟩
 ·cases hv
 ·injection hv with e1 e2 e3
  injection e1 with e1
  subst e1 e3
  have hadd:(⟨g,0,none⟩:Addr).add off=⟨g,off,none⟩:=by unfold Addr.add;split<;>simp_all
  have hxl:xs.length≤cur.toList.length:=by rw [← htk,List.length_take];omega
  have hst:=run_storeCells_at P g off el vs 0 cur w hg (by simp at hxl;omega) h1
  simp only [Nat.add_zero] at hst
  rw [hadd]
  refine ⟨_,hst,?_⟩
  have hnew:(w.setRow g (cur.toList.take off++vs++cur.toList.drop (off+vs.length)).toArray).heap[g]? =some (.cells (cur.toList.take off++vs++cur.toList.drop (off+vs.length)).toArray el (0,0)):=setRow_heap w g cur _ el _ hg
  have hoth: ∀ k,k≠g→(w.setRow g (cur.toList.take off++vs++cur.toList.drop (off+vs.length)).toArray).heap[k]? =w.heap[k]? :=fun k hk=>setRow_other w g k _ hk
  have hlen:(xs.take off++vs++xs.drop (off+vs.length)).length=xs.length:=by
   simp only [List.length_append,List.length_take,List.length_drop];omega
  refine hb.turn (c':= .row false (.slice (some ⟨g,0,none⟩) n0 cc) el s n0 (xs.take off++vs++xs.drop (off+vs.length))) ⟨rfl,rfl,rfl,by simp,fun k _ _ hf=>hoth k fun e=>hf (.row false (.slice (some ⟨g,0,none⟩) n0 cc) el s n0 xs) (by simp) (by rw [e];rfl),fun _ _ _ h _=>(by cases h),fun d hd k hk2 _=>?_⟩ ⟨by rw [hlen];exact hown.1, .inr ⟨g,cc,_,rfl,Nat.zero_le _,hnew,hnc,hcm,?_,?_⟩⟩ (fun g' hg'=> .inl ⟨hg',Nat.le_refl _⟩)
  ·have:d= .row false (.slice (some ⟨g,0,none⟩) n0 cc) el s n0 xs:=by simpa using hd
   subst this
   exact Same.zero
  ·simp only [List.size_toArray,List.length_append,List.length_take,List.length_drop,Array.length_toList]
   simp only [Array.length_toList] at hxl
   omega
  ·have hcur:cur.toList=xs++cur.toList.drop (n0*s):=by
    conv=>lhs;rw [← List.take_append_drop (n0*s) cur.toList]
    rw [htk]
   generalize cur.toList.drop (n0*s)=rr at hcur
   show List.take (n0*s) (List.take off cur.toList++vs++List.drop (off+vs.length) cur.toList)=_
   have q1:List.take off (xs++rr)=List.take off xs:=List.take_append_of_le_length (by omega)
   have q2:List.drop (off+vs.length) (xs++rr)=List.drop (off+vs.length) xs++rr:=List.drop_append_of_le_length (by omega)
   rw [hcur,q1,q2, ← List.append_assoc]
   exact List.take_left' (by rw [hlen];exact hown.1)
theorem NW {i:HV} {t0:Ty} {x:Operand} {y:Dn} {S1:St} (hfr:i.ty=i.ty.er) (ht0:t0.er=i.ty) (h:valOf S i t0 x=some (y,S1)) (hs:aZ S W e eh oh):
  ∃ v vs hv eh',EV e x v∧v.cells=vs.toArray∧Rp W.φ y.1 y.2 vs hv∧y.1.er=i.ty∧aZ S1 W e eh' oh∧S1.az=S.az∧Sub eh (hv++eh'):=by
 unfold valOf at h
 split at h
 ·rename_i hx
  split at h
  case h_2=>cases h
  case h_1 y0 hy=>
  injection h with h
  injection h with h3 h4
  subst h3 h4
  obtain ⟨h0,r1,r2,r3,r4⟩:=CU (φ:=W.φ) hy
  obtain ⟨v,hh,rr,q1,q2,_⟩:=fZ hs.env (x:=x) (by rw [hx];intro e;cases e)
  rw [hx] at q2
  obtain ⟨rfl,_⟩:=q2
  exact ⟨_,_,h0,eh,q1,rfl,r1,by rw [r3,ht0],hs,rfl,by simpa using Sub.app r2 (Sub.refl eh)⟩
 ·rename_i t y0 hx
  split at h
  case isFalse=>cases h
  case isTrue he=>
  injection h with h
  injection h with h3 h4
  subst h3 h4
  obtain ⟨v,hh,eh',q1,⟨cs,g1,rfl,g3⟩,q3,q4⟩:=dn hs hx (by intro e;cases e)
  exact ⟨_,cs,hh,eh',q1,jX g1 g3,g3,he,q3,Kz x,q4⟩
 ·split at h
  case h_2=>cases h
  case h_1 y0 hy=>
  injection h with h
  injection h with h3 h4
  subst h3 h4
  obtain ⟨cs,v,q1,q2,q3,_⟩:=CP hs.env (x:=x) rfl hy hfr
  exact ⟨v,cs,[],eh,q1,q2,q3,hfr.symm,hs,rfl,Sub.refl _⟩
theorem QW {φ':bL} {l:List (Nat×D)} {e:Env} {hs:List Chunk} (h:ay W l e hs) (hle:W.φ.le φ') {j j':Nat} {p':List Dir} {o':Nat} (hp:φ' ⟨W.aA j,0,none⟩=some (.pointer (some ⟨W.aA j',o',none⟩))):ay ⟨φ',W.aA,W.hd⟩ (Pq j (.sJ j' p' o') l) e hs:=by
 have h1:=h.mono (W':=⟨φ',W.aA,W.hd⟩) hle rfl rfl
 clear h
 induction h1 with
 | nil=>exact .nil
 | @cons k d v hd hs l e h2 h3 ih=>
  unfold Pq
  split
  case h_1 he=>cases he
  case h_2 k' i r' he=>
   injection he with he1 he2
   injection he1 with he3 he4
   subst he2 he3 he4
   refine .cons ?_ ih
   cases hb:Nat.beq j i with
   | false=>exact h2
   | true=>
    have:=Nat.eq_of_beq_eq_true hb
    subst this
    exact ⟨⟨_,h2.1,hp⟩,h2.2⟩
  case h_3 he=>
   injection he with he1 he2
   subst he1 he2
   exact .cons h2 ih
theorem MO (hc:aO P G c) {tid:Nat} {x z:Operand} (h:storeT c tid S z k (S.get x)=some r): ∃ S',k S'=some r∧ ∀ a w,At N C G S a w→gD P N C G ⟨none, .store tid x z,ty,pos,af,gd⟩ S' a w:=by
 generalize hx:S.get x=dx at h
 unfold storeT at h
 split at h
 case h_4=>cases h
 case h_3 j p off m sz q qo=>
  split at h
  case h_2=>cases h
  case h_1 t y i hat hi=>
  split at h
  case h_2=>cases h
  case h_1 a v ob ha2 hv hob=>
  cases hbb:(Nat.beq a.size sz && Nat.beq (aH a q) qo && Rx j off (nf t*sz) S.env) with
  | false=>rw [hbb] at h;cases h
  | true=>
   rw [hbb] at h
   simp only [cond_true] at h
   simp only [Bool.and_eq_true] at hbb
   have hsz:=Nat.eq_of_beq_eq_true hbb.1.1
   have hqo:=Nat.eq_of_beq_eq_true hbb.1.2
   split at h
   case h_2=>cases h
   case h_1 l hl=>
   obtain ⟨N1,e1,rfl⟩:=Kv hl
   subst e1
   have hbd:=Option.bind_eq_some_iff.1 h
   clear h
   obtain ⟨n,hn,h⟩:=hbd
   subst hn
   have hbd:=Option.bind_eq_some_iff.1 h
   clear h
   obtain ⟨x0,hx0,h⟩:=hbd
   split at h
   case h_2=>cases h
   case h_1 a' e' hst=>
   split at h
   case isFalse=>cases h
   case isTrue haa=>
   subst haa
   split at h
   case h_2=>cases h
   case h_1 y' hy'=>
   split at h
   case h_2=>cases h
   case h_1 z0 hset=>
   have hx0:(kD a' N1 y)[n]? =some x0:=hx0
   have hst:bN a' q ⟨i.ty,v⟩ x0=some ⟨a',e'⟩:=hst
   have hy2:=UD hy'
   subst hy2
   obtain ⟨hat1,ob2,tb,g1,g2⟩:=uA hat
   have he2:ob2=ob:=Option.some.inj (g1.symm.trans hob)
   subst he2
   obtain ⟨ob3,k1,k2,k3⟩:=zO hat1
   have he3:ob3=ob2:=Option.some.inj (k1.symm.trans hob)
   subst he3
   have hq1:=LV (q:=q) hx0 hst
   have hq2:bN (Ty.st (fB a' N1)) (.i::(aD (fB a' N1) n++q)) ⟨i.ty,v⟩ y=some ⟨.st (fB a' N1),Ef a' N1 y n e'⟩:=by
    show (match bN (fB a' N1) (aD (fB a' N1) n++q) ⟨i.ty,v⟩ y with | some z=>some (⟨.st z.1,z.2⟩:Dn) | none=>none)=_
    rw [hq1]
   have hq3:=yR (r:= .i::(aD (fB a' N1) n++q)) k3 hq2
   obtain ⟨_,p2,p3⟩:=Cu (q:=q) hx0
   have hoff:aH ob3.t (p++ .i::(aD (fB a' N1) n++q))=off+(n*sz+qo):=by
    rw [(tH _ k3).2,k2]
    show off+aH (fB a' N1) (aD (fB a' N1) n++q)=_
    rw [p2,hsz,hqo]
   have hsetO:S.w9 j (p++ .i::(aD (fB a' N1) n++q)) (off+(n*sz+qo)) ⟨i.ty,v⟩=some ⟨jB j (off+(n*sz+qo)) i.ty.size S.env,aQ S.az j ⟨ob3.tid,z0.1,z0.2⟩⟩:=by
    unfold St.w9
    rw [hob]
    simp only
    rw [hoff,Nat.beq_refl,cond_true,hq3]
    have hset:bN ob3.t p ⟨.st (fB a' N1),Ef a' N1 y n e'⟩ ob3.x=some z0:=hset
    rw [hset]
   refine ⟨_,h,fun a w ⟨W,e,eh,oh,hs,hf,hb⟩=>?_⟩
   obtain ⟨ob4,_,_,_,_,_,_,_,s,_,w2,w3,_⟩:=pW hsetO hs
   obtain ⟨ob5,b1,b2,b3⟩:=zO w2
   have he5:ob5=ob3:=Option.some.inj (b1.symm.trans hob)
   subst he5
   rw [(tH _ k3).1] at b3
   have b3:aU (fB a' N1) (aD (fB a' N1) n++q) y=some s:=b3
   have hin:=BX b3
   rw [p2,Jf,hsz,hqo] at hin
   have hss:s.1.size=i.ty.size:=by rw [← Ty.aF s.1, ← w3,Ty.aF]
   have hkill:=zf (o1:=off+(n*sz+qo)) (n1:=i.ty.size) (Nat.le_add_right _ _) (by rw [Df];omega) hbb.2
   rw [hkill] at hsetO
   obtain ⟨vs,v1,v2⟩:=jo hs.env hv (hc.ty _ _ hi).DN
   have htop:i.ty.top=true:=vo hs.env hv (hc.ty _ _ hi).DN
   exact rA hsetO hs hf ⟨ob5,tb,hob,g2⟩ (Cw hs.env hx) v1 (jX htop v2) v2 (hc.ty _ _ hi).sz (by simpa using hb)
 case h_1 j p off=>
  split at h
  case h_6=>cases h
  case h_1 j' p' o' i hz hi=>
   split at h
   case h_2=>cases h
   case h_1 y S1 hta=>
   split at h
   case isFalse=>cases h
   case isTrue he=>
   obtain ⟨S',h1,h2,h3⟩:=BV h
   refine ⟨S',h2,fun a w ⟨W,e,eh,oh,hs,hf,hb⟩=>?_⟩
   obtain ⟨v,h0,oh1,b1,b2,b3,b4,b5,_⟩:=rQ hta hs
   obtain ⟨v',hh,rr,q1,q2,_⟩:=fZ hs.env (x:=z) (by rw [hz];intro e;cases e)
   rw [hz] at q2
   obtain ⟨q2,_⟩:=q2
   have hv:v'=v:=Option.some.inj (q2.symm.trans b1)
   subst hv
   have hsz:=(hc.ty _ _ hi).sz
   rw [← he,Ty.aF] at hsz
   have hvc:v'.cells=[v'].toArray:=by
    obtain ⟨A,n0,c0,rfl⟩:=b5
    rfl
   exact rA h1 b3 hf h3 (bI hs.env hx) q1 hvc b2 hsz (((Sub.app (Sub.refl eh) b4).trans (Sub.perm (List.perm_append_comm_assoc _ _ _))).hb hb)
  case h_2 j' p' o' i hz hi=>
   split at h
   case h_2=>cases h
   case h_1 tb x0 tp hob hty=>
   cases hjj:Nat.beq j j' with
   | true=>rw [hjj] at h;cases h
   | false=>
   cases hoff:Nat.beq off 0 with
   | false=>rw [hjj,hoff] at h;cases h
   | true=>
   rw [hjj,hoff] at h
   have hoff:=Nat.eq_of_beq_eq_true hoff
   subst hoff
   simp only [cond_false,cond_true] at h
   refine ⟨_,h,fun a w ⟨W,e,eh,oh,hs,hf,hb⟩=>?_⟩
   obtain ⟨v',hh,rr,q1,q2,_⟩:=fZ hs.env (x:=z) (by rw [hz];intro e;cases e)
   rw [hz] at q2
   obtain ⟨rfl,_⟩:=q2
   obtain ⟨h0,r',⟨hc0,b1,b2⟩,b3,_,b5⟩:=hs.l9.set hs.nd hob
   obtain ⟨⟨p0,e0,_⟩,rfl⟩:=b1
   have e0:W.hd j=[.pointer p0]:=e0
   have b2:h0=[blk (W.aA j) tb (W.hd j)]:=b2
   subst b2
   rw [e0] at b3
   have hb1:Hb C w (blk (W.aA j) tb ([]++[.pointer p0]++[])::(eh++r')) (Inv G W.φ):=hb.perm ((b3.append_left eh).trans (List.perm_middle (l₁:=eh)))
   have hh:=hb1.hp.hold _ List.mem_cons_self
   have hsz:=(hc.ty _ _ hi).sz
   rw [hty] at hsz
   have hrun:=run_store (P:=P) (dst:=none) (ty:=ty) (pos:=pos) (af:=af) (gd:=gd) (t:=tid) (vs:=[.pointer (some ⟨W.aA j',o',none⟩)]) hsz (hf.ev (bI hs.env hx)) (hf.ev q1) rfl (by simp [Value.oneCell']) hh rfl rfl
   have hb2:=hb1.turn (uk hh) (qa (l':=[]++[.pointer (some ⟨W.aA j',o',none⟩)]++[]) hh) (fun g hg=> .inl ⟨hg,Nat.zero_le _⟩)
   obtain ⟨φ',f1,f2,f3⟩:=uo hb2
   obtain ⟨oh',k1,k2⟩:=b5 φ' f1
   exact .skip hrun ⟨⟨φ',W.aA,W.hd⟩,e,eh,oh',⟨(QW hs.env f1 (f2 0 _ rfl)).Af j,k1,(mP j hs.nd).1⟩,hf,(Sub.app (Sub.refl eh) (Sub.perm k2.symm)).hb f3⟩
  case h_3 i hz hi=>
   split at h
   case h_2=>cases h
   case h_1 t y0 hat=>
   split at h
   case isFalse=>cases h
   case isTrue he=>
   split at h
   case h_2=>cases h
   case h_1 y hy=>
   obtain ⟨S',h1,h2,_⟩:=BV h
   refine ⟨S',h2,fun a w ⟨W,e,eh,oh,hs,hf,hb⟩=>?_⟩
   obtain ⟨h0,r1,r2,r3,r4⟩:=CU (φ:=W.φ) hy
   obtain ⟨v,hh,rr,q1,q2,_⟩:=fZ hs.env (x:=z) (by rw [hz];intro e;cases e)
   rw [hz] at q2
   obtain ⟨rfl,_⟩:=q2
   obtain ⟨_,ob,tb,g1,g2⟩:=uA hat
   refine rA h1 hs hf ⟨ob,tb,g1,g2⟩ (bI hs.env hx) q1 rfl r1 ?_ ((Sub.app r2 (Sub.refl _)).hb (by simpa using hb))
   have hsz:=(hc.ty _ _ hi).sz
   rw [← he, ← r3,Ty.aF] at hsz
   exact hsz
  case h_4 t y i hz hi=>
   split at h
   case isFalse=>cases h
   case isTrue he=>
   obtain ⟨S',h1,h2,h3⟩:=BV h
   refine ⟨S',h2,fun a w ⟨W,e,eh,oh,hs,hf,hb⟩=>?_⟩
   obtain ⟨v,hh,eh',q1,⟨cs,g1,rfl,g3⟩,q3,q4⟩:=dn hs hz (by intro e;cases e)
   have hsz:=(hc.ty _ _ hi).sz
   rw [← he,Ty.aF] at hsz
   exact rA h1 q3 hf h3 (bI hs.env hx) q1 (jX g1 g3) g3 hsz (((Sub.app q4 (Sub.refl oh)).trans (by rw [List.append_assoc];exact Sub.refl _)).hb hb)
  case h_5 d i hi hn0 hn1 hn2 hn3=>
   split at h
   case h_2=>cases h
   case h_1 y hy=>
   obtain ⟨S',h1,h2,h3⟩:=BV h
   refine ⟨S',h2,fun a w ⟨W,e,eh,oh,hs,hf,hb⟩=>?_⟩
   obtain ⟨cs,v,q1,q2,q3,_⟩:=CP hs.env (x:=z) rfl hy (hc.ty _ _ hi).DN
   exact rA h1 hs hf h3 (bI hs.env hx) q1 q2 q3 (hc.ty _ _ hi).sz (by simpa using hb)
 case h_2 j p off n sz q qo=>
  split at h
  case h_2=>cases h
  case h_1 ob i hob hi=>
  split at h
  case h_3=>cases h
  case h_2 _ el a t l hat=>
   cases hbb:(Nat.beq t.size sz && Nat.beq (aH t q) qo) with
   | false=>rw [hbb] at h;cases h
   | true=>
   rw [hbb] at h
   simp only [cond_true] at h
   simp only [Bool.and_eq_true] at hbb
   have hsz:=Nat.eq_of_beq_eq_true hbb.1
   have hqo:=Nat.eq_of_beq_eq_true hbb.2
   obtain ⟨u0,hu0,h⟩:=Option.bind_eq_some_iff.1 h
   obtain ⟨y0,rfl,rfl,rfl⟩:=JY hu0
   split at h
   case h_2=>cases h
   case h_1 t0 x0 hg=>
   split at h
   case isFalse=>cases h
   case isTrue ht0=>
   split at h
   case h_2=>cases h
   case h_1 y S1 hval=>
   split at h
   case h_2=>cases h
   case h_1 t' e' hst=>
   split at h
   case h_2=>cases h
   case h_1 z0 hset=>
   refine ⟨_,h,fun a0 w ⟨W,e,eh,oh,hs,hf,hb⟩=>?_⟩
   obtain ⟨v,vs,hv,eh',v1,v2,v3,v4,hs1,v5,v6⟩:=NW (hc.ty _ _ hi).DN ht0 hval hs
   obtain ⟨ob2,a1,a2,a3⟩:=zO hat
   have he2:ob2=ob:=Option.some.inj (a1.symm.trans hob)
   subst he2
   have hob1:look S1.az j=some ob2:=by rw [v5];exact hob
   obtain ⟨h0,rr,⟨hc0,b1,b2⟩,b3,b4,_⟩:=hs1.l9.set hs1.nd hob1
   obtain ⟨pre,mid,post,k1,k2,k3,s0,g0,g1,g2,g3,g4,g5,g6,g7,g8⟩:=iC hset b1
   have hs0:s0=⟨.ml el a t,some y0⟩:=Option.some.inj (g0.symm.trans a3)
   subst hs0
   obtain ⟨A,cc,css,ce,he0,m1,m2,m3,m4,m5,m6⟩:=id g5
   have m1:mid=[.slice (some A) (y0.1.length+1) cc]:=m1
   have m6:k2=[.row false (.slice (some A) (y0.1.length+1) cc) el t.size (y0.1.length+1) (css.flatten++ce)]++he0:=m6
   obtain ⟨pre2,mid2,post2,y1,y2,y3,s1,f0,f1,f2,f3,f4,f5,f6,f7,f8⟩:=iC hst m4
   have hts:t'.size=t.size:=by rw [← Ty.aF t',f6,Ty.aF]
   have hel:=f8 W.φ vs hv W.φ.le_refl v3
   have hml:vs.length=mid2.length:=by rw [v3.len,f5.len, ← Ty.aF s1.1, ← f1,Ty.aF]
   have hnew:Rp W.φ (.ml el a t') (some (y0.1,e')) mid ([.row false (.slice (some A) (y0.1.length+1) cc) el t.size (y0.1.length+1) (css.flatten++(pre2++vs++post2))]++(y1++hv++y3)):=
    ⟨A,cc,css,_,_,m1,m2,m3,hel,by rw [m5,f6],by rw [hts];rfl⟩
   have hz:=g8 W.φ mid _ W.φ.le_refl hnew
   rw [← g2] at hz
   obtain ⟨hs',w1,w2⟩:=b4 W.φ (W.hd j) ⟨ob2.tid,z0.1,z0.2⟩ (eO W j ob2.tid (W.hd j)++(k1++([.row false (.slice (some A) (y0.1.length+1) cc) el t.size (y0.1.length+1) (css.flatten++(pre2++vs++post2))]++(y1++hv++y3))++k3)) W.φ.le_refl ⟨_,by rw [upd_same];exact hz,by rw [upd_same];unfold eO;cases ob2.tid<;>rfl⟩
   rw [upd_same] at w1
   have b2':h0=eO W j ob2.tid (W.hd j)++(k1++k2++k3):=by rw [b2,g4];unfold eO;cases ob2.tid<;>rfl
   obtain ⟨v9,h',hx1,A0,mm,cc0,n1,rfl,_⟩:=bY hs.env hx (by intro e;cases e)
   have hcl:(W.hd j)[off]? =some (.slice (some A) (y0.1.length+1) cc):=by rw [g2, ← a2, ← g3,m1];simp
   rw [hcl] at n1
   simp only [Option.some.injEq,Value.slice.injEq] at n1
   obtain ⟨rfl,_,_⟩:=n1
   have hall: ∀ cx∈css,cx.length=t.size:=fun cx hcx=>by rw [AA m3 cx hcx,m5,Ty.aF]
   have hfl:css.flatten.length=y0.1.length*t.size:=by rw [fI css hall,m3.length]
   rw [b2',m6,f4] at b3
   have hb1:Hb C w ([.row false (.slice (some A) (y0.1.length+1) cc) el t.size (y0.1.length+1) (css.flatten++ce)]++(y2++(eh'++(eO W j ob2.tid (W.hd j)++(k1++(y1++hv++y3)++k3)++rr)))) (Inv G W.φ):=by
    refine ((Sub.app v6 (Sub.refl oh)).trans (Sub.perm ?_)).hb hb
    classical
    rw [List.perm_iff_count]
    intro c0
    have q1:=(List.perm_iff_count.1 b3) c0
    simp only [List.count_append] at q1 ⊢
    omega
   have hb2:Hb C w (.row false (.slice (some A) (y0.1.length+1) cc) el t.size (y0.1.length+1) (css.flatten++ce)::(eh'++(eO W j ob2.tid (W.hd j)++(k1++(y1++hv++y3)++k3)++rr))) (Inv G W.φ):=(Sub.cons Sub.right).hb hb1
   have hoff:y0.1.length*sz+qo=css.flatten.length+pre2.length:=by rw [← hsz, ← hqo,hfl,f3]
   obtain ⟨w',r1,r2⟩:=zZ (P:=P) (off:=y0.1.length*sz+qo) hb2 v3.one (by rw [hoff,f2];simp only [List.length_append];omega)
   have hcs:List.take (y0.1.length*sz+qo) (css.flatten++ce)++vs++List.drop (y0.1.length*sz+qo+vs.length) (css.flatten++ce)=css.flatten++(pre2++vs++post2):=by
    rw [hoff,f2]
    have e1:css.flatten++(pre2++mid2++post2)=(css.flatten++pre2)++(mid2++post2):=by simp
    have e2:css.flatten++(pre2++mid2++post2)=(css.flatten++pre2++mid2)++post2:=by simp
    have l1:(css.flatten++pre2).length=css.flatten.length+pre2.length:=by simp
    have l2:(css.flatten++pre2++mid2).length=css.flatten.length+pre2.length+vs.length:=by rw [List.length_append,l1,hml]
    rw [show List.take (css.flatten.length+pre2.length) (css.flatten++(pre2++mid2++post2))=css.flatten++pre2 by rw [e1];exact List.take_left' l1,show List.drop (css.flatten.length+pre2.length+vs.length) (css.flatten++(pre2++mid2++post2))=post2 by rw [e2];exact List.drop_left' l2]
    simp
   rw [hcs] at r2
   have hrun:(execOp a0.eval ⟨none, .store tid x z,ty,pos,af,gd⟩).run P w= .ok .skip w':=by
    have hlen:vs.length=i.ty.size:=by rw [v3.len, ← Ty.aF,v4]
    simp [execOp,hf.ev hx1,hf.ev v1,Instr.storeAt,Instr.sureAddr,storeVar,bG (hc.ty _ _ hi).sz,v2,hlen,r1]
   refine .skip hrun ⟨W,e,eh',hs',⟨hs1.env,w1,?_⟩,hf,(Sub.perm ?_).hb r2⟩
   ·rw [mK _ _ _ (jF hob1)]
    exact hs1.nd
   ·classical
    rw [show ∀ (c1:Chunk) (l1:List Chunk),c1::l1=[c1]++l1 from fun _ _=>rfl]
    rw [List.perm_iff_count]
    intro c0
    have q2:=(List.perm_iff_count.1 w2) c0
    simp only [List.count_append] at q2 ⊢
    omega
  case h_1 el t l y hat hy=>
  cases hbb:(Nat.beq t.size sz && Nat.beq (aH t q) qo) with
  | false=>rw [hbb] at h;cases h
  | true=>
   rw [hbb] at h
   simp only [cond_true] at h
   simp only [Bool.and_eq_true] at hbb
   have hsz:=Nat.eq_of_beq_eq_true hbb.1
   have hqo:=Nat.eq_of_beq_eq_true hbb.2
   obtain ⟨x0,hx0,h⟩:=Option.bind_eq_some_iff.1 h
   split at h
   case h_2=>cases h
   case h_1 t' e' hst=>
   split at h
   case isFalse=>cases h
   case isTrue htt=>
   subst htt
   split at h
   case h_2=>cases h
   case h_1 z0 hset=>
   refine ⟨_,h,fun a w ⟨W,e,eh,oh,hs,hf,hb⟩=>?_⟩
   obtain ⟨ob2,a1,a2,a3⟩:=zO hat
   have he2:ob2=ob:=Option.some.inj (a1.symm.trans hob)
   subst he2
   obtain ⟨h0,rr,⟨hc0,b1,b2⟩,b3,b4,_⟩:=hs.l9.set hs.nd hob
   obtain ⟨pre,mid,post,h1,h2,h3,s0,g0,g1,g2,g3,g4,g5,g6,g7,g8⟩:=iC hset b1
   have hs0:s0=⟨.mr el t',l⟩:=Option.some.inj (g0.symm.trans a3)
   subst hs0
   obtain ⟨A,cc,css,m1,m2,m3,m4,m5⟩:=g5
   have m1:mid=[.slice A (List.length l) cc]:=m1
   subst m1
   have hcell:(W.hd j)[off]? =some (.slice A (List.length l) cc):=by rw [g2, ← a2, ← g3];simp
   obtain ⟨v,h',hx1,A0,mm,cc0,k1,rfl,_⟩:=bY hs.env hx (by intro e;cases e)
   rw [hcell] at k1
   simp only [Option.some.injEq,Value.slice.injEq] at k1
   obtain ⟨rfl,_,_⟩:=k1
   obtain ⟨ce,c1,c2⟩:=m3.get hx0
   obtain ⟨vs,v1,v2⟩:=jo hs.env hy (hc.ty _ _ hi).DN
   obtain ⟨pre2,mid2,post2,y1,y2,y3,s1,f0,f1,f2,f3,f4,f5,f6,f7,f8⟩:=iC hst c2
   have hyn:y1=[]∧y2=[]∧y3=[]:=by
    have:y1++y2++y3=[]:=f4.symm
    simpa [and_assoc] using this
   obtain ⟨rfl,rfl,rfl⟩:=hyn
   have hnew:=f8 W.φ vs [] W.φ.le_refl v2
   have hml:vs.length=mid2.length:=by rw [v2.len,f5.len, ← Ty.aF s1.1, ← f1,Ty.aF]
   have hall: ∀ cx∈css,cx.length=t'.size:=fun cx hcx=>by
    obtain ⟨ix,hix⟩:=List.getElem?_of_mem hcx
    have hlt:=(List.getElem?_eq_some_iff.1 hix).1
    rw [← m3.length] at hlt
    obtain ⟨b',hb1,hb2⟩:=m3.get (List.getElem?_eq_getElem hlt)
    rw [hix] at hb1
    injection hb1 with hb1
    subst hb1
    exact hb2.len
   subst f2
   obtain ⟨p1,p2⟩:=N8 hall c1 hml
   rw [f3,hqo,hsz] at p1 p2
   have b2':h0=eO W j ob2.tid (W.hd j)++(h1++h2++h3):=by rw [b2,g4];unfold eO;cases ob2.tid<;>rfl
   have m5':h2=[.row false (.slice (some A0) (List.length l) cc) el t'.size (List.length l) css.flatten]:=m5
   have hperm:(eh++oh).Perm (.row false (.slice (some A0) (List.length l) cc) el t'.size (List.length l) css.flatten::(eh++(eO W j ob2.tid (W.hd j)++(h1++[]++h3)++rr))):=by
    refine (b3.append_left eh).trans ?_
    rw [b2',m5']
    exact (List.Perm.append_left eh (DD)).trans (List.perm_append_comm_assoc _ _ _)
   obtain ⟨w',r1,r2⟩:=zZ (P:=P) (hb.perm hperm) v2.one p2
   rw [← p1] at r2
   have hrun:(execOp a.eval ⟨none, .store tid x z,ty,pos,af,gd⟩).run P w= .ok .skip w':=by
    have hlen:vs.length=i.ty.size:=v2.len
    have htop:i.ty.top=true:=vo hs.env hy (hc.ty _ _ hi).DN
    have hvc:=jX htop v2
    simp [execOp,hf.ev hx1,hf.ev v1,Instr.storeAt,Instr.sureAddr,storeVar,bG (hc.ty _ _ hi).sz,hvc,hlen,r1]
   have hrow:Rp W.φ (.mr el t') (l.set n e') [.slice (some A0) (List.length l) cc] [.row false (.slice (some A0) (List.length l) cc) el t'.size (List.length l) (css.set n (pre2++vs++post2)).flatten]:=by
    have hln:(l.set n e').length=List.length l:=List.length_set ..
    exact ⟨some A0,cc,css.set n (pre2++vs++post2),by rw [hln],by rw [hln];exact m2,m3.set n hnew,fun _=>rfl,by rw [hln]⟩
   have hz:=g8 W.φ _ _ W.φ.le_refl hrow
   have hcs:pre++[.slice (some A0) (List.length l) cc]++post=W.hd j:=g2.symm
   rw [hcs] at hz
   obtain ⟨hs',w1,w2⟩:=b4 W.φ (W.hd j) ⟨ob2.tid,z0.1,z0.2⟩ (eO W j ob2.tid (W.hd j)++(h1++[.row false (.slice (some A0) (List.length l) cc) el t'.size (List.length l) (css.set n (pre2++vs++post2)).flatten]++h3)) W.φ.le_refl ⟨_,by rw [upd_same];exact hz,by rw [upd_same];unfold eO;cases ob2.tid<;>rfl⟩
   rw [upd_same] at w1
   refine .skip hrun ⟨W,e,eh,hs',⟨hs.env,w1,?_⟩,hf,(Sub.perm ?_).hb r2⟩
   ·rw [mK _ _ _ (jF hob)]
    exact hs.nd
   ·refine List.Perm.trans ?_ (w2.append_left eh).symm
    exact ((List.Perm.append_left eh (DD)).trans (List.perm_append_comm_assoc eh [_] _)).symm
end
end Go.Lf
/-
  Operations that turn more than their slot: new blocks, heads cut, rows that grow.
-/
namespace Go.Lf
open Go Go.iM
section
variable {P:Program} {N:Nat} {C:Cx} {G:World→Prop} {c:Ctx} {S:St} {Rt:Type} {k:St→Option Rt} {r:Rt} {a:Act} {w:World}
variable {W:d_} {e:Env} {eh oh:List Chunk} {dst:Option Tmp} {ty:TypeId} {pos:String} {af:Array Edge} {gd:Option (Nat×Bool)}
theorem qp: ∀ {t:Ty},dA t.er=dA t
 | .int _=>rfl | .bool=>rfl | .str=>rfl | .unit=>rfl | .it=>rfl | .xX=>rfl | .dead _ _=>rfl | .sl _=>rfl | .rw _ _=>rfl | .mr _ _=>rfl | .ptr _=>rfl | .eb _ _=>rfl | .op _=>rfl | .bx _ _=>rfl | .on _=>rfl | .fl _=>rfl | .bo _ _=>rfl | .bn=>rfl | .tr=>rfl | .ml _ _ _=>rfl
 | .st t=>qp (t:=t)
 | .pr a b=>by show dA a.er++dA b.er=_;rw [qp (t:=a),qp (t:=b)];rfl
theorem wI: ∀ {t:Ty} {x:t.den},zero t=some x→(zero t.er).isSome=true
 | .int _,_=>fun _=>rfl | .bool,_=>fun _=>rfl | .str,_=>fun _=>rfl | .unit,_=>fun _=>rfl | .it,_=>fun h=>(by simp [zero] at h) | .xX,_=>fun h=>(by simp [zero] at h) | .dead _ _,_=>fun _=>rfl | .sl _,_=>fun _=>rfl | .rw _ _,_=>fun _=>rfl | .mr _ _,_=>fun _=>rfl
 | .ptr _,_=>fun h=>by simp [zero] at h
 | .bx _ _,_=>fun h=>by simp [zero] at h
 | .on _,_=>fun h=>by simp [zero] at h
 | .fl _,_=>fun h=>by simp [zero] at h
 | .bo _ _,_=>fun _=>rfl
 | .bn,_=>fun _=>rfl
 | .tr,_=>fun _=>rfl
 | .ml _ _ _,_=>fun _=>rfl
 | .eb _ _,_=>fun _=>rfl
 | .op _,_=>fun _=>rfl
 | .st t,x=>fun h=>wI (t:=t) (x:=x) (by simpa only [zero] using h)
 | .pr a b,x=>fun h=>by
  unfold zero at h
  split at h
  ·rename_i y z hy hz
   have h1:=wI hy
   have h2:=wI hz
   show (zero (.pr a.er b.er)).isSome=true
   unfold zero
   obtain ⟨u,hu⟩:=Option.isSome_iff_exists.1 h1
   obtain ⟨v,hv⟩:=Option.isSome_iff_exists.1 h2
   rw [hu,hv];rfl
  ·cases h
theorem qC (hn:c.n=N) {d tid:Nat} {t:Ty} {x:t.den} {S1:St} (h:xw c d ⟨some tid,t,x⟩ (.ref d [] 0) S1 k=some r) {op:Op}:
  ∃ S',k S'=some r∧ ∀ W e eh oh cs h0 a w,aZ S1 W e eh oh→Rp W.φ t x cs h0→Fr a N e→Hb C w (h0++(eh++oh)) (Inv G W.φ)→
   (execOp a.eval ⟨some d,op,ty,pos,af,gd⟩).run P w= .ok (.value (.pointer (some ⟨w.heap.size,0,none⟩))) (w.alloc (.cells cs.toArray tid))→gD P N C G ⟨some d,op,ty,pos,af,gd⟩ S' a w:=by
 obtain ⟨S',h1,h2⟩:=Ce (C:=C) (G:=G) hn h
 refine ⟨S',h1,fun W e eh oh cs h0 a w hs hr hf hb hrun=> .value hrun ?_⟩
 exact h2 W e eh oh w.heap.size cs h0 _ a _ hs hr hf ⟨by simp [upd],rfl⟩ (hb.alloc (.cells cs.toArray tid))
theorem Nz (hc:aO P G c) (hn:c.n=N) {t:Nat} (h:oF c ⟨dst, .alloc t,ty,pos,af,gd⟩ S k=some r): ∃ S',k S'=some r∧ ∀ a w,At N C G S a w→gD P N C G ⟨dst, .alloc t,ty,pos,af,gd⟩ S' a w:=by
 simp only [oF] at h
 split at h
 case h_2=>cases h
 case h_1 d i hi=>
 have ho:=hc.ty _ _ hi
 have core: ∀ (ty':Ty) (z:ty'.den),ty'.er=i.ty→zero ty'=some z→xw c d ⟨some t,ty',z⟩ (.ref d [] 0) S k=some r→ ∃ S',k S'=some r∧ ∀ a w,At N C G S a w→gD P N C G ⟨some d, .alloc t,ty,pos,af,gd⟩ S' a w:=by
  intro ty' z he hz h
  obtain ⟨S',h1,h2⟩:=qC (P:=P) (C:=C) (G:=G) (ty:=ty) (pos:=pos) (af:=af) (gd:=gd) hn h (op:= .alloc t)
  refine ⟨S',h1,fun a w ⟨W,e,eh,oh,hs,hf,hb⟩=>?_⟩
  obtain ⟨h0,r1,r2⟩:=qf (φ:=W.φ) hz
  have hzt:=ho.zero (by rw [← he];exact wI hz)
  rw [← he,qp] at hzt
  obtain ⟨inf,v,q1,q2,q3⟩:=hzt
  refine h2 W e eh oh _ h0 a w hs r1 hf ((Sub.app r2 (Sub.refl _)).hb (by simpa using hb)) ?_
  simp [execOp,Instr.alloc,zeroValue,typeInfo,q1,q2,newVar,newRow,q3]
 split at h
 ·split at h
  case h_2=>cases h
  case h_1 tp hty=>
  obtain ⟨S',h1,h2⟩:=qC (P:=P) (C:=C) (G:=G) (ty:=ty) (pos:=pos) (af:=af) (gd:=gd) hn h (op:= .alloc t)
  refine ⟨S',h1,fun a w ⟨W,e,eh,oh,hs,hf,hb⟩=>?_⟩
  obtain ⟨inf,q1,q2⟩:=Dx ((ho.ptr tp hty).2)
  refine h2 W e eh oh [.pointer none] [] a w hs ⟨⟨none,rfl,rfl⟩,rfl⟩ hf (by simpa using hb) ?_
  simp [execOp,Instr.alloc,zeroValue,typeInfo,q1,q2,newVar,newRow,Value.cells]
 ·rename_i ty' hne hown
  split at h
  case isFalse=>cases h
  case isTrue he=>
  split at h
  case h_2=>cases h
  case h_1 z hz=>exact core ty' z he hz h
 ·split at h
  case h_2=>cases h
  case h_1 z hz=>exact core i.ty z ho.DN.symm hz h
theorem EG (hc:aO P G c) {id:Nat} {u:Ty} {i:HV} (hi:look c.ty id=some i) (hty:i.ty= .st u.er) (hsz:i.sz=0) {W:d_} {e:Env}:
  ∀ (parts:List (Nat×Operand)) (S S':St) (eh oh:List Chunk) (z y:u.den) (cs:List Value) (h0:List Chunk),aZ S W e eh oh→vg u S parts z=some (y,S')→Rp W.φ u z cs h0→
   ∃ eh' oh' cs' h1,aZ S' W e eh' oh'∧Rp W.φ u y cs' h1∧Sub (h0++(eh++oh)) (h1++(eh'++oh'))∧Parts P id e cs parts cs'
 | [],S,S',eh,oh,z,y,cs,h0=>fun hs h r=>by
  unfold vg at h
  simp only [Option.some.injEq,Prod.mk.injEq] at h
  obtain ⟨rfl,rfl⟩:=h
  exact ⟨eh,oh,cs,h0,hs,r,Sub.refl _, .nil⟩
 | (f,x)::q,S,S',eh,oh,z,y,cs,h0=>fun hs h r=>by
  have ho:=hc.ty _ _ hi
  unfold vg at h
  cases hn:Nat.blt f (nf u) with
  | false=>rw [hn] at h;cases h
  | true=>
   rw [hn] at h
   simp only [cond_true] at h
   have hlt:f<nf u:=by simpa [Nat.blt_eq] using hn
   split at h<;>first | cases h | skip
   rename_i s x0 hg
   have hgt:bX u (aD u f)=some s:=nI (t:= .st u) hg
   obtain ⟨hf1,fs,_,_,hf2⟩:=ho.ag u.er hty hsz
   have hf1':=hf1 f (by rw [JC];exact hlt)
   rw [vF,Kj] at hf1'
   have hf2':=hf2 f s.er (by rw [JC];exact hlt) (by rw [vF];exact DX u f hgt)
   rw [Ty.aF] at hf2'
   have core: ∀ (S1:St) (eh1 oh1 hv:List Chunk) (y1:Dn) (t':Ty) (z':t'.den) (het:t'= .st u) (vs:List Value) (v:Value),aZ S1 W e eh1 oh1→bN (.st u) (.i::aD u f) y1 z=some ⟨t',z'⟩→y1.1.er=s.er→Rp W.φ y1.1 y1.2 vs hv→EV e x v→v.cells=vs.toArray→Sub (eh++oh) (hv++(eh1++oh1))→
     vg u S1 q (het▸z':(Ty.st u).den)=some (y,S')→ ∃ eh' oh' cs' h1,aZ S' W e eh' oh'∧Rp W.φ u y cs' h1∧Sub (h0++(eh++oh)) (h1++(eh'++oh'))∧Parts P id e cs ((f,x)::q) cs':=by
    intro S1 eh1 oh1 hv y1 t' z' het vs v hs1 hst hye hr1 hev hcells hsub hrest
    obtain ⟨pre,mid,post,h1,h2,h3,s0,q0,q1,q2,q3,q4,q5,q6,q7,q8⟩:=iC (t:= .st u) hst r
    have hs0:s0=⟨s,x0⟩:=Option.some.inj (q0.symm.trans hg)
    subst hs0
    have q9:=q8 W.φ vs hv W.φ.le_refl hr1
    subst het
    obtain ⟨eh',oh',cs',h1',r1,r2,r3,r4⟩:=EG hc hi hty hsz q S1 S' eh1 oh1 z' y _ _ hs1 hrest q9
    have hlv:vs.length=s.size:=by rw [hr1.len, ← Ty.aF y1.1,hye,Ty.aF]
    refine ⟨eh',oh',cs',h1',r1,r2,Sub.trans ?_ r3, .cons hf1' hf2' hlv hev hcells ?_ r4⟩
    ·rw [q4]
     have a1:Sub (h1++h2++h3++(eh++oh)) (h1++[]++h3++(hv++(eh1++oh1))):=Sub.app (Sub.app (Sub.app (Sub.refl _) (Sub.nil _)) (Sub.refl _)) hsub
     refine a1.trans (Sub.perm ?_)
     simp only [List.append_nil,List.append_assoc]
     refine List.Perm.append_left _ ?_
     exact List.perm_append_comm_assoc _ _ _
    ·have hq3:pre.length=aH u (aD u f):=q3
     rw [← hq3,q2]
     exact Cf pre mid post vs (by rw [hlv,q5.len])
   split at h
   ·rename_i hs1
    split at h<;>first | cases h | skip
    rename_i yv hy
    split at h<;>first | cases h | skip
    rename_i t' z' hst
    split at h
    ·rename_i het
     obtain ⟨vs,g1,g2⟩:=jo hs.env hy hs1
     have htop:s.top=true:=by
      generalize hd:S.get x=d at hy
      unfold gy at hy
      split at hy
      ·obtain ⟨_,_,_,ht,_⟩:=bD hs.env hd;exact jN hy ht
      ·split at hy<;>first | rfl | (simp [Ty.er] at hs1;done) | cases hy
      ·split at hy<;>first | rfl | cases hy
      ·split at hy<;>first | rfl | cases hy
      ·split at hy<;>first | rfl | cases hy
      ·cases hy
     exact core S eh oh [] ⟨s,yv⟩ t' z' het vs _ hs hst rfl g2 g1 (jX htop g2) (Sub.refl _) h
    ·cases h
   ·split at h
    ·rename_i j p o hx
     split at h<;>first | cases h | skip
     rename_i y1 S1 hta
     split at h
     case isFalse=>cases h
     case isTrue hye=>
     split at h<;>first | cases h | skip
     rename_i t' z' hst
     split at h
     ·rename_i het
      obtain ⟨v,hh,rr,q1,q2,_⟩:=fZ hs.env (x:=x) (by rw [hx];intro e;cases e)
      rw [hx] at q2
      obtain ⟨q2,rfl⟩:=q2
      obtain ⟨v',hv,oh1,b1,b2,b3,b4,⟨A,n,cc,hvs⟩,_⟩:=rQ hta hs
      have hvv:v'=v:=Option.some.inj (b1.symm.trans q2)
      subst hvv
      refine core S1 eh oh1 hv y1 t' z' het [v'] v' b3 hst hye b2 q1 (by rw [hvs];rfl) ?_ h
      exact (Sub.app (Sub.refl eh) b4).trans (Sub.perm (List.perm_append_comm_assoc _ _ _))
     ·cases h
    ·rename_i t y1 hx
     split at h
     case isFalse=>cases h
     case isTrue hye=>
     split at h<;>first | cases h | skip
     rename_i t' z' hst
     split at h
     ·rename_i het
      obtain ⟨v,hh,eh',q1,⟨cs1,g1,rfl,g3⟩,q3,q4⟩:=dn hs hx (by intro e;cases e)
      refine core (S.strip x) eh' oh hh ⟨t,y1⟩ t' z' het cs1 _ q3 hst hye g3 q1 (jX g1 g3) ?_ h
      exact (Sub.app q4 (Sub.refl oh)).trans (by rw [List.append_assoc];exact Sub.refl _)
     ·cases h
    ·cases h
theorem Nv (hc:aO P G c) (hn:c.n=N) {t:Nat} {parts:Array (Nat×Operand)} (h:oF c ⟨dst, .build t parts,ty,pos,af,gd⟩ S k=some r): ∃ S',k S'=some r∧ ∀ a w,At N C G S a w→gD P N C G ⟨dst, .build t parts,ty,pos,af,gd⟩ S' a w:=by
 simp only [oF] at h
 split at h
 case h_2=>cases h
 case h_1 d t' hi=>
 have ho:=hc.ty _ _ hi
 split at h
 case h_2=>cases h
 case h_1 u hown=>
 split at h
 case isFalse=>cases h
 case isTrue he=>
 split at h
 case h_2=>cases h
 case h_1 z hz=>
 cases hpf:Gm u parts.toList with
 | false=>
 rw [hpf] at h
 simp only [cond_false] at h
 split at h
 case h_2=>cases h
 case h_1 y S2 hy=>
 obtain ⟨S',h1,h2⟩:=dz (C:=C) (G:=G) hn h
 refine ⟨S',h1,fun a w ⟨W,e,eh,oh,hs,hf,hb⟩=>?_⟩
 obtain ⟨h0,r1,r2⟩:=qf (φ:=W.φ) hz
 have hzt:=ho.zero (by show (zero t').isSome=true;rw [← he];exact wI hz)
 have hzt:tZ P t (dA t'):=hzt
 rw [← he,qp] at hzt
 obtain ⟨_,fs,hu,hst,_⟩:=ho.ag t' rfl rfl
 obtain ⟨eh',oh',cs',h1',b1,b2,b3,b4⟩:=EG (u:=u) hc hi (by rw [he]) rfl _ _ _ _ _ _ _ _ _ hs hy r1
 have hrun:=R.Yh (P:=P) (N:=N) (C:=C) (hs:=eh++oh) (I:=Inv G W.φ) (d:=some d) (ty:=ty) (pos:=pos) (af:=af) (gd:=gd) (e:=e) hu hst hzt b4
 have hrun:gP P N C e (eh++oh) (Inv G W.φ) ⟨some d, .build t parts,ty,pos,af,gd⟩ (.agg cs'.toArray):=by simpa using hrun
 exact .value (hrun a w hf hb) (h2 W e eh' oh' _ h1' a w b1 ⟨cs',rfl,rfl,b2⟩ hf (((Sub.app r2 (Sub.refl (eh++oh))).trans b3).hb (by simpa using hb)))
 | true=>
 rw [hpf] at h
 simp only [cond_true] at h
 split at h
 case h_2=>cases h
 case h_1 y hy=>
 obtain ⟨S',h1,h2⟩:=dz (C:=C) (G:=G) hn h
 refine ⟨S',h1,fun a w ⟨W,e,eh,oh,hs,hf,hb⟩=>?_⟩
 obtain ⟨h0,r1,r2⟩:=qf (φ:=W.φ) hz
 have hzt:=ho.zero (by show (zero t').isSome=true;rw [← he];exact wI hz)
 have hzt:tZ P t (dA t'):=hzt
 rw [← he,qp] at hzt
 obtain ⟨_,fs,hu,hst,_⟩:=ho.ag t' rfl rfl
 obtain ⟨cs',b1,b2⟩:=FH (u:=u) hc hi (by rw [he]) rfl hs.env _ _ _ _ _ hpf hy r1
 have hrun:=R.Yh (P:=P) (N:=N) (C:=C) (hs:=eh++oh) (I:=Inv G W.φ) (d:=some d) (ty:=ty) (pos:=pos) (af:=af) (gd:=gd) (e:=e) hu hst hzt b2
 have hrun:gP P N C e (eh++oh) (Inv G W.φ) ⟨some d, .build t parts,ty,pos,af,gd⟩ (.agg cs'.toArray):=by simpa using hrun
 exact .value (hrun a w hf hb) (h2 W e eh oh _ h0 a w hs ⟨cs',rfl,rfl,b1⟩ hf ((Sub.app r2 (Sub.refl _)).hb (by simpa using hb)))
theorem SG (hc:aO P G c) (hn:c.n=N) {d t:Nat} {x:Operand} (h:Mk c d t S x k=some r): ∃ S',k S'=some r∧ ∀ a w,At N C G S a w→gD P N C G ⟨some d, .box t x,ty,pos,af,gd⟩ S' a w:=by
 have ex: ∀ (a:Act) (w:World) (v:Value) (cs:List Value),a.eval x=v→v.cells=cs.toArray→(execOp a.eval ⟨some d, .box t x,ty,pos,af,gd⟩).run P w= .ok (.value (.pointer (some ⟨w.heap.size,0,none⟩))) (w.alloc (.cells cs.toArray t)):=by
  rintro a w v cs rfl hv
  simp [execOp,Instr.box,newVar,newRow,hv]
 unfold Mk at h
 split at h
 case h_2=>cases h
 case h_1 i hi=>
 have ho:=hc.ty _ _ hi
 split at h
 ·rename_i j p o hx
  split at h
  case h_2=>cases h
  have h:out c ⟨some d, .box t x,ty,pos,af,gd⟩ S (.sJ j p o) k=some r:=h
  obtain ⟨S',h1,h2⟩:=dz (C:=C) (G:=G) hn h
  refine ⟨S',h1,fun a w ⟨W,e,eh,oh,hs,hf,hb⟩=>?_⟩
  obtain ⟨v,hh,rr,q1,q2,_⟩:=fZ hs.env (x:=x) (by rw [hx];intro e;cases e)
  rw [hx] at q2
  obtain ⟨rfl,_⟩:=q2
  obtain ⟨φ',f1,f2,f3⟩:=uo (hb.alloc (.cells [Value.pointer (some ⟨W.aA j,o,none⟩)].toArray t))
  exact .value (ex a w _ [Value.pointer (some ⟨W.aA j,o,none⟩)] (hf.ev q1) rfl) (h2 ⟨φ',W.aA,W.hd⟩ e eh oh _ [] a _ (hs.mono f1) ⟨⟨_,rfl,f2 0 _ rfl⟩,rfl⟩ hf f3)
 ·rename_i ty' y t' hx hown
  split at h
  case isFalse=>cases h
  case isTrue e1=>
  split at h
  case isFalse=>cases h
  case isTrue e2=>
  subst e1
  have h:out c ⟨some d, .box t x,ty,pos,af,gd⟩ S (.v (.ptr ty') y) k=some r:=h
  obtain ⟨S',h1,h2⟩:=dz (C:=C) (G:=G) hn h
  refine ⟨S',h1,fun a w ⟨W,e,eh,oh,hs,hf,hb⟩=>?_⟩
  obtain ⟨v,hh,rr,q1,q2,_⟩:=fZ hs.env (x:=x) (by rw [hx];intro e;cases e)
  rw [hx] at q2
  obtain ⟨cs,g1,rfl,g3⟩:=q2
  have hnil:=Rp.aP (by rw [e2];exact ho.DN) g3
  subst hnil
  obtain ⟨φ',f1,f2,f3⟩:=uo (hb.alloc (.cells cs.toArray t))
  exact .value (ex a w _ cs (hf.ev q1) (jX g1 g3)) (h2 ⟨φ',W.aA,W.hd⟩ e eh oh _ [] a _ (hs.mono f1) ⟨[_],rfl,rfl,⟨w.heap.size,0,none⟩,cs,rfl,g3.mono f1,f2,rfl⟩ hf f3)
 ·rename_i ty' y _ hx _
  split at h
  case isFalse=>cases h
  case isTrue he=>
  obtain ⟨S',h1,h2⟩:=qC (P:=P) (C:=C) (G:=G) (ty:=ty) (pos:=pos) (af:=af) (gd:=gd) hn h (op:= .box t x)
  refine ⟨S',h1,fun a w ⟨W,e,eh,oh,hs,hf,hb⟩=>?_⟩
  obtain ⟨v,hh,eh',q1,⟨cs,g1,rfl,g3⟩,q3,q4⟩:=dn hs hx (by intro e;cases e)
  exact h2 W e eh' oh cs hh a w q3 g3 hf (((Sub.app q4 (Sub.refl oh)).trans (by rw [List.append_assoc];exact Sub.refl _)).hb hb) (ex a w _ cs (hf.ev q1) (jX g1 g3))
 ·rename_i ty' hx hown
  split at h
  case isFalse=>cases h
  case isTrue he=>
  split at h
  case h_2=>cases h
  case h_1 y hy=>
  obtain ⟨S',h1,h2⟩:=qC (P:=P) (C:=C) (G:=G) (ty:=ty) (pos:=pos) (af:=af) (gd:=gd) hn h (op:= .box t x)
  refine ⟨S',h1,fun a w ⟨W,e,eh,oh,hs,hf,hb⟩=>?_⟩
  obtain ⟨h0,r1,r2,_⟩:=CU (φ:=W.φ) hy
  obtain ⟨v,hh,rr,q1,q2,_⟩:=fZ hs.env (x:=x) (by rw [hx];intro e;cases e)
  rw [hx] at q2
  obtain ⟨rfl,_⟩:=q2
  exact h2 W e eh oh _ h0 a w hs r1 hf ((Sub.app r2 (Sub.refl _)).hb (by simpa using hb)) (ex a w _ _ (hf.ev q1) rfl)
 ·split at h
  case h_2=>cases h
  case h_1 y hy=>
  obtain ⟨S',h1,h2⟩:=qC (P:=P) (C:=C) (G:=G) (ty:=ty) (pos:=pos) (af:=af) (gd:=gd) hn h (op:= .box t x)
  refine ⟨S',h1,fun a w ⟨W,e,eh,oh,hs,hf,hb⟩=>?_⟩
  obtain ⟨cs,v,q1,q2,q3,_⟩:=CP hs.env (x:=x) rfl hy ho.DN
  exact h2 W e eh oh cs [] a w hs q3 hf (by simpa using hb) (ex a w _ _ (hf.ev q1) q2)
theorem GM {φ:bL} {p:Bool} {g el size n:Nat} {xs:List Value} {rest:List Chunk} (hb:Hb C w (.obj g (.cells xs.toArray el)::rest) (Inv G φ)) (hx:xs.length=n*size) (hn:n≤maxLen):
  Hb C w (.row p (.slice (some ⟨g,0,none⟩) n n) el size n xs::rest) (Inv G φ):=by
 have hg:w.heap[g]? =some (.cells xs.toArray el (0,0)):=hb.hp.hold _ List.mem_cons_self
 refine hb.turn (c':= .row p (.slice (some ⟨g,0,none⟩) n n) el size n xs) (Ext.refl _ _ _) ⟨hx, .inr ⟨g,n,xs.toArray,rfl,Nat.zero_le _,hg,Nat.le_refl _,hn,by simpa using hx,?_⟩⟩ (fun g' hg'=> .inl ⟨hg',Nat.zero_le _⟩)
 show List.take _ xs=xs
 exact List.take_of_length_le (by omega)
theorem DL {W:d_} {e:Env} {hs:List Chunk} {t:Ty} (he:ay W S.env e hs) (hf:t=t.er) {a:Act} (hfr:Fr a N e) (h0:0<t.size): ∀ (parts:List (Nat×Operand)) (i:Nat) (l:List t.den) (pre post:List Value),Eb S t i parts=some l→pre.length=i*t.size→post.length=parts.length*t.size→
  ∃ css,bz (fun x cs=>Rp W.φ t x cs []) l css∧l.length=parts.length∧Instr.fill (fun j=>some (j*t.size,t.size)) (pre++post).toArray (parts.map fun p=>(p.1,a.eval p.2))=some (pre++css.flatten).toArray
 | [],i,l,pre,post,h,h1,h2=>by
  have hl:([]:List t.den)=l:=by simpa [Eb] using h
  subst hl
  have:post=[]:=List.eq_nil_of_length_eq_zero (by simpa using h2)
  subst this
  exact ⟨[], .nil,rfl,rfl⟩
 | (j,x)::q,i,l,pre,post,h,h1,h2=>by
  unfold Eb at h
  cases hb:Nat.beq i j with
  | false=>rw [hb] at h;cases h
  | true=>
   rw [hb] at h
   simp only [cond_true] at h
   have hij:=Nat.eq_of_beq_eq_true hb
   subst hij
   split at h
   case h_2=>cases h
   case h_1 y l' hy hl=>
   simp only [Option.some.injEq] at h
   subst h
   obtain ⟨vs,g1,g2⟩:=jo he hy hf
   have htop:=vo he hy hf
   have hvl:vs.length=t.size:=g2.len
   have hpl:post.length=q.length*t.size+t.size:=by rw [h2,List.length_cons,Nat.succ_mul]
   have hlen2:(post.drop t.size).length=q.length*t.size:=by rw [List.length_drop];omega
   obtain ⟨css,c1,c2,c3⟩:=DL he hf hfr h0 q (i+1) l' (pre++vs) (post.drop t.size) hl (by rw [List.length_append,hvl,h1,Nat.succ_mul]) hlen2
   refine ⟨vs::css, .cons g2 c1,by simp [c2],?_⟩
   have hvc:=jX htop g2
   have hev:a.eval x=sv t vs:=hfr.ev g1
   simp only [List.map_cons,Instr.fill,hev,hvc]
   have hcond: ¬ ((vs.toArray.size≠t.size || decide (i*t.size+vs.toArray.size>(pre++post).toArray.size))=true):=by
    simp [hvl,h1];omega
   rw [if_neg hcond]
   have hput:vs.toArray.zipIdx.foldl (fun cs (c,j)=>cs.setIfInBounds (i*t.size+j) c) (pre++post).toArray=(pre++vs++post.drop t.size).toArray:=by
    apply Array.ext'
    rw [t_ vs (i*t.size) (pre++post).toArray (by simp [hvl,h1];omega)]
    rw [← h1]
    simp [hvl]
   rw [hput,c3]
   simp
theorem ES (w:World) (o:Obj):Ext (fun _=>none) [] w (w.alloc o):=by
 have hkeep: ∀ k,k<w.heap.size→(w.alloc o).heap[k]? =w.heap[k]? :=fun k hk=>Go.RowKit.Below.heap_alloc w o k hk
 exact ⟨rfl,rfl,rfl,by simp,fun k hk _ _=>hkeep k hk,fun k _ hk _ _=>Same.of_block (hkeep k hk),fun c hc=>(by cases hc)⟩
theorem R7 (hc:aO P G c) {t el sz:Nat} {t':Ty} (hi:look c.ty t=some ⟨.sl t',el,sz⟩) (hsm:t'.size≤16777216) {parts:Array (Nat×Operand)} {x:Operand} (hp:parts.toList=[(0,x)]) {v:Value} {cs:List Value} (hv:a.eval x=v) (hvc:v.cells=cs.toArray) (hl:cs.length=t'.size):
  (execOp a.eval ⟨dst, .buildSlice t 1 parts,ty,pos,af,gd⟩).run P w= .ok (.value (.slice (some ⟨w.heap.size,0,none⟩) 1 1)) (w.alloc (.cells cs.toArray el)):=by
 obtain ⟨hts,happ,_,hfr,_,_⟩:=(hc.ty _ _ hi).sl t' rfl
 obtain ⟨i0,z,q1,q2,q3,q4,q5,q6,q7⟩:=happ
 have hpe:parts= #[(0,x)]:=by rw [← Array.toArray_toList (xs:=parts),hp]
 subst hpe
 have hszr:=bG (P:=P) (dM hts).2 w
 have c4:Instr.fill (fun j=>some (j*t'.size,t'.size)) ((Array.range t'.size).map (z.cells[· % z.cells.size]!)) [(0,v)]=some cs.toArray:=by
  simp only [Instr.fill,hvc]
  have hcond: ¬ ((cs.toArray.size≠t'.size || decide (0*t'.size+cs.toArray.size>((Array.range t'.size).map (z.cells[· % z.cells.size]!)).size))=true):=by simp [hl]
  rw [if_neg hcond]
  congr 1
  apply Array.ext'
  rw [t_ cs (0*t'.size) _ (by simp [hl])]
  simp [hl]
 have hbig: ¬ t'.size>2^24:=by omega
 have h00:t'.size≠0:=Nat.pos_iff_ne_zero.1 q7
 have hb3:(Instr.buildSlice t 1 #[(0,v)]).run P w= .ok (.slice (some ⟨w.heap.size,0,none⟩) 1 1) (w.alloc (.cells cs.toArray el)):=by
  simp only [Instr.buildSlice,Sem.run_bind,run_underlying (dM hts).1,Result.andThen,hszr,Nat.one_mul,hbig,if_false,h00]
  simp [zeroValue,typeInfo,q2,q3,c4,newRow]
 simp only [execOp]
 simp [hv,hb3]
theorem vG (hc:aO P G c) (hn:c.n=N) {t n:Nat} {parts:Array (Nat×Operand)} (h:oF c ⟨dst, .buildSlice t n parts,ty,pos,af,gd⟩ S k=some r): ∃ S',k S'=some r∧ ∀ a w,At N C G S a w→ ∃ v w',(execOp a.eval ⟨dst, .buildSlice t n parts,ty,pos,af,gd⟩).run P w= .ok (.value v) w'∧Ext (fun _=>none) [] w w'∧At N C G S' (a.put dst v) w':=by
 simp only [oF] at h
 split at h
 case h_2=>cases h
 case h_1 t' el sz hi=>
 have ho:=hc.ty _ _ hi
 cases hml:TD c ⟨dst, .buildSlice t n parts,ty,pos,af,gd⟩ with
 | true=>
  rw [hml] at h
  simp only [cond_true] at h
  split at h
  case h_2=>cases h
  case h_1 x hp=>
  cases hb:(Nat.beq n 1 && Nat.ble t'.size 16777216) with
  | false=>rw [hb] at h;cases h
  | true=>
  rw [hb] at h
  simp only [cond_true] at h
  simp only [Bool.and_eq_true] at hb
  have hn1:=Nat.eq_of_beq_eq_true hb.1
  have hsm:=Nat.le_of_ble_eq_true hb.2
  subst hn1
  split at h
  case h_2=>cases h
  case h_1 tv yv hx=>
  split at h
  case isFalse=>cases h
  case isTrue he=>
  obtain ⟨S',h1,h2⟩:=dz (C:=C) (G:=G) hn h
  refine ⟨S',h1,fun a w ⟨W,e,eh,oh,hs,hf,hb2⟩=>?_⟩
  obtain ⟨v,hh,eh',q1,⟨cs,g1,rfl,g3⟩,q3,q4⟩:=dn hs hx (by intro e;cases e)
  have hl:cs.length=t'.size:=by rw [g3.len, ← Ty.aF tv,he]
  obtain ⟨hts,happ,_,hfr,_,_⟩:=ho.sl t' rfl
  obtain ⟨i0,z,_,_,_,_,_,_,q7⟩:=happ
  have hb3:Hb C w (hh++(eh'++oh)) (Inv G W.φ):=((Sub.app q4 (Sub.refl oh)).trans (by rw [List.append_assoc];exact Sub.refl _)).hb hb2
  have hbA:=hb3.alloc (.cells cs.toArray el)
  have hbR:=GM (p:=false) (size:=t'.size) (n:=1) hbA (by rw [hl,Nat.one_mul]) (by unfold maxLen;omega)
  refine ⟨_,_,R7 hc hi hsm hp (hf.ev q1) (jX g1 g3) hl,ES _ _,?_⟩
  refine h2 W e eh' oh _ (.row false (.slice (some ⟨w.heap.size,0,none⟩) 1 1) el t'.size 1 cs::hh) a _ q3 ⟨[_],rfl,rfl,?_⟩ hf (by simpa using hbR)
  refine ⟨⟨w.heap.size,0,none⟩,1,[],cs,hh,rfl,Nat.le_refl _, .nil,g3,he.symm,?_⟩
  rw [show tv.size=t'.size by rw [← Ty.aF tv,he]]
  rfl
 | false=>
 rw [hml] at h
 simp only [cond_false] at h
 cases hb:(Nat.beq n parts.size && Nat.ble (n*t'.size) 16777216) with
 | false=>rw [hb] at h;cases h
 | true=>
  rw [hb] at h
  simp only [cond_true] at h
  simp only [Bool.and_eq_true] at hb
  have hnp:=Nat.eq_of_beq_eq_true hb.1
  have hsm:=Nat.le_of_ble_eq_true hb.2
  split at h
  case h_2=>cases h
  case h_1 l hl=>
  obtain ⟨S',h1,h2⟩:=M3 (C:=C) (G:=G) hn h
  refine ⟨S',h1,fun a w ⟨W,e,eh,oh,hs,hf,hb2⟩=>?_⟩
  obtain ⟨hts,happ,_,hfr,_,_⟩:=ho.sl t' rfl
  have happ':=happ
  obtain ⟨i0,z,q1,q2,q3,q4,q5,q6,q7⟩:=happ
  have hzl:((Array.range (n*t'.size)).map (z.cells[· % z.cells.size]!)).toList.length=parts.toList.length*t'.size:=by simp [hnp]
  obtain ⟨css,c1,c2,c3⟩:=DL hs.env hfr hf q7 parts.toList 0 l [] ((Array.range (n*t'.size)).map (z.cells[· % z.cells.size]!)).toList hl (by simp) hzl
  have hll:l.length=n:=by rw [c2,Array.length_toList, ← hnp]
  have hrun:(execOp a.eval ⟨dst, .buildSlice t n parts,ty,pos,af,gd⟩).run P w= .ok (.value (.slice (some ⟨w.heap.size,0,none⟩) n n)) (w.alloc (.cells css.flatten.toArray el)):=by
   have hbig: ¬ n*t'.size>2^24:=by omega
   have hpl:(parts.map fun p=>(p.1,a.eval p.2)).toList=parts.toList.map fun p=>(p.1,a.eval p.2):=by simp
   have hb3:(Instr.buildSlice t n (parts.map fun p=>(p.1,a.eval p.2))).run P w= .ok (.slice (some ⟨w.heap.size,0,none⟩) n n) (w.alloc (.cells css.flatten.toArray el)):=by
    have c4:Instr.fill (fun j=>some (j*t'.size,t'.size)) ((Array.range (n*t'.size)).map (z.cells[· % z.cells.size]!)) (parts.map fun p=>(p.1,a.eval p.2)).toList=some css.flatten.toArray:=by
     rw [hpl]
     rw [List.nil_append,List.nil_append,Array.toArray_toList] at c3
     exact c3
    have hszr:=bG (P:=P) (dM hts).2 w
    rcases Nat.eq_zero_or_pos n with h0 | hn0
    ·subst h0
     have c5:css.flatten=[]:=by
      have:css=[]:=List.length_eq_zero_iff.1 (by rw [← c1.length,hll])
      rw [this];rfl
     have hp0:parts= #[]:=Array.eq_empty_of_size_eq_zero hnp.symm
     subst hp0
     rw [c5]
     simp only [Instr.buildSlice,Sem.run_bind,run_underlying (dM hts).1,Result.andThen,hszr]
     simp [newRow,Instr.fill]
     congr 2
     apply Array.ext'
     simp [Array.range]
    have h00:n*t'.size≠0:=Nat.pos_iff_ne_zero.1 (Nat.mul_pos hn0 q7)
    simp only [Instr.buildSlice,Sem.run_bind,run_underlying (dM hts).1,Result.andThen,hszr,hbig,if_false,h00]
    simp at c4
    simp [zeroValue,typeInfo,q2,q3,c4,newRow]
   simp only [execOp]
   simp [hb3]
  have hbA:=hb2.alloc (.cells css.flatten.toArray el)
  have hall: ∀ cx∈css,cx.length=t'.size:=fun cx hcx=>by
   obtain ⟨ix,hix⟩:=List.getElem?_of_mem hcx
   have hlt:=(List.getElem?_eq_some_iff.1 hix).1
   rw [← c1.length] at hlt
   obtain ⟨b',hb1,hb3⟩:=c1.get (List.getElem?_eq_getElem hlt)
   rw [hix] at hb1
   injection hb1 with hb1
   subst hb1
   exact hb3.len
  have hfl:css.flatten.length=l.length*t'.size:=by rw [fI css hall,c1.length]
  have hbR:=fun p=>GM (p:=p) hbA hfl (by unfold maxLen;have:n*1≤n*t'.size:=Nat.mul_le_mul_left n q7;omega)
  refine ⟨_,_,hrun,ES _ _,?_⟩
  rw [← hll]
  exact h2 W e eh oh (some ⟨w.heap.size,0,none⟩) l.length css a _ hs q7 (Nat.le_refl _) c1 rfl hf hbR
theorem EE (hc:aO P G c) (hn:c.n=N) {t n:Nat} {parts:Array (Nat×Operand)} (h:oF c ⟨dst, .buildSlice t n parts,ty,pos,af,gd⟩ S k=some r): ∃ S',k S'=some r∧ ∀ a w,At N C G S a w→gD P N C G ⟨dst, .buildSlice t n parts,ty,pos,af,gd⟩ S' a w:=by
 obtain ⟨S',h1,h2⟩:=vG (N:=N) (C:=C) hc hn h
 refine ⟨S',h1,fun a w hat=>?_⟩
 obtain ⟨v,w',q1,_,q3⟩:=h2 a w hat
 exact .value q1 q3
theorem FE {z:Array Value} {s:Nat} (hs:z.size=s) (n:Nat):madeCells z (n*s)=(List.replicate n z.toList).flatten.toArray:=by
 have hall: ∀ c∈List.replicate n z.toList,c.length=s:=fun c hc=>by rw [(List.mem_replicate.1 hc).2];simpa using hs
 apply Array.ext'
 apply List.ext_getElem?
 intro i
 by_cases hi:i<n*s
 ·have hs0:0<s:=by
   rcases Nat.eq_zero_or_pos s with h | h
   ·rw [h] at hi;simp at hi
   ·exact h
  have hq:i / s<n:=Nat.div_lt_of_lt_mul (by rwa [Nat.mul_comm] at hi)
  have hr:i % s<z.toList.length:=by simpa [hs] using Nat.mod_lt i hs0
  have h1:=flat_get (List.replicate n z.toList) hall (i / s) z.toList (by rw [List.getElem?_replicate,if_pos hq]) (i % s) _ (List.getElem?_eq_getElem hr)
  rw [Nat.mul_comm,Nat.div_add_mod] at h1
  rw [show (List.replicate n z.toList).flatten.toArray.toList=(List.replicate n z.toList).flatten from rfl,h1]
  have hr':i % z.size<z.size:=by rw [hs];simpa [hs] using hr
  simp [madeCells,hi,hs]
  exact getElem!_pos z (i % s) (by rw [hs];exact Nat.mod_lt i hs0)
 ·rw [List.getElem?_eq_none (by simp [madeCells];omega),List.getElem?_eq_none]
  show (List.replicate n z.toList).flatten.length≤i
  rw [fI _ hall,List.length_replicate]
  omega
theorem PZ (hc:aO P G c) (hn:c.n=N) {t el sz:Nat} {t':Ty} {kx ky:IntKind} {m:Int} {z:t'.den} {x y:Operand} {l:List t'.den} (hx:S.get x= .v (.int kx) (0:Int)) (hy:S.get y= .v (.int ky) m) (hi:look c.ty t=some ⟨.sl t',el,sz⟩) (hz:zero t'=some z) (hl:Pt sz m=some l)
  (h:out c ⟨dst, .makeSlice t x y,ty,pos,af,gd⟩ S (.v (.rw el t') l) k=some r): ∃ S',k S'=some r∧ ∀ a w,At N C G S a w→gD P N C G ⟨dst, .makeSlice t x y,ty,pos,af,gd⟩ S' a w:=by
 have ho:=hc.ty _ _ hi
 unfold Pt at hl
 split at hl
 case isFalse=>cases hl
 case isTrue hm=>
 simp only [Option.some.injEq] at hl
 subst hl
 obtain ⟨S',h1,h2⟩:=dz (N:=N) (C:=C) (G:=G) hn h
 refine ⟨S',h1,fun a w ⟨W,e,eh,oh,hs,hf,hb⟩=>?_⟩
 obtain ⟨hts,happ,_,hfr,hsz0,htz⟩:=ho.sl t' rfl
 obtain ⟨i0,zz,q1,q2,q3,q4,q5,q6,q7⟩:=happ
 obtain ⟨inf,v,p1,p2,p3⟩:=htz (by rw [hz];rfl)
 obtain ⟨h0,r1,_⟩:=qf (φ:=W.φ) hz
 have:=Rp.aP hfr r1
 subst this
 have hinf:inf=i0:=Option.some.inj (p1.symm.trans q2)
 subst hinf
 have hvz:v=zz:=Option.some.inj (p2.symm.trans q3)
 subst hvz
 obtain ⟨n,hn1⟩: ∃ n:Nat,m=n:=⟨m.toNat,(Int.toNat_of_nonneg hm.1).symm⟩
 subst hn1
 have hn47:n*sz≤140737488355328:=by
  have h9:((n*sz:Nat):Int)≤140737488355328:=by rw [Int.natCast_mul];exact hm.2
  omega
 have hn47':n≤140737488355328:=Nat.le_trans (Nat.le_mul_of_pos_right _ hsz0) hn47
 have hrun:(execOp a.eval ⟨dst, .makeSlice t x y,ty,pos,af,gd⟩).run P w= .ok (.value (.slice (some ⟨w.heap.size,0,none⟩) 0 n)) (w.alloc (.cells (List.replicate n (dA t')).flatten.toArray el)):=by
  have e1:=hf.ev (ak hs.env hx)
  have e2:=hf.ev (ak hs.env hy)
  have q5':inf.bytes=sz:=q5
  have hby:inf.bytes*n≤281474976710656:=by rw [q5',Nat.mul_comm];omega
  have hby2:(inf.bytes:Int)*(n:Int)≤281474976710656:=by
   have:((inf.bytes*n:Nat):Int)≤281474976710656:=by omega
   rwa [Int.natCast_mul] at this
  have hr0:=fun kl kc=>run_make (P:=P) w t el inf v q1 q2 q3 kl kc (0:Int) (n:Int) (by omega) (by omega) hby2 (by omega)
  simp only [Int.toNat_natCast,q4] at hr0
  rw [FE q6] at hr0
  have hzl:v.cells.toList=dA t':=by rw [p3]
  rw [hzl] at hr0
  simp [execOp,e1,e2,hr0]
 have hbA:=hb.alloc (.cells (List.replicate n (dA t')).flatten.toArray el)
 have hall: ∀ cx∈List.replicate n (dA t'),cx.length=t'.size:=fun cx hcx=>by rw [(List.mem_replicate.1 hcx).2];exact r1.len
 have hfl:(List.replicate n (dA t')).flatten.length=n*t'.size:=by rw [fI _ hall,List.length_replicate]
 have hg:(w.alloc (.cells (List.replicate n (dA t')).flatten.toArray el)).heap[w.heap.size]? =some (.cells (List.replicate n (dA t')).flatten.toArray el (0,0)):=hbA.hp.hold _ List.mem_cons_self
 have hbR:=hbA.turn (c':= .row true (.slice (some ⟨w.heap.size,0,none⟩) 0 n) el t'.size 0 []) (Ext.refl _ _ _) ⟨by simp, .inr ⟨w.heap.size,n,_,rfl,Nat.zero_le _,hg,Nat.zero_le _,by unfold maxLen;omega,by simpa using hfl,by simp⟩⟩ (fun g' hg'=> .inl ⟨hg',Nat.zero_le _⟩)
 refine .value hrun ?_
 exact h2 W e eh oh _ _ a _ hs ⟨[.slice (some ⟨w.heap.size,0,none⟩) 0 n],rfl,rfl,some ⟨w.heap.size,0,none⟩,n,[],rfl,Nat.zero_le _, .nil,fun h=>absurd h (by simp),rfl⟩ hf hbR
theorem Gv (hc:aO P G c) (hn:c.n=N) {t:Nat} {x y:Operand} (h:oF c ⟨dst, .makeSlice t x y,ty,pos,af,gd⟩ S k=some r): ∃ S',k S'=some r∧ ∀ a w,At N C G S a w→gD P N C G ⟨dst, .makeSlice t x y,ty,pos,af,gd⟩ S' a w:=by
 simp only [oF] at h
 cases hrw:Tn c ⟨dst, .makeSlice t x y,ty,pos,af,gd⟩ x with
 | true=>
  rw [hrw] at h
  simp only [cond_true] at h
  split at h
  case h_2=>cases h
  case h_1 t' el sz _ a _ b hi hx hy=>
  split at h
  case h_2=>cases h
  case h_1 z hz=>
  split at h
  case isFalse=>cases h
  case isTrue ha=>
  subst ha
  obtain ⟨l,hl,h⟩:=Option.bind_eq_some_iff.1 h
  exact PZ hc hn hx hy hi hz hl h
 | false=>
 rw [hrw] at h
 simp only [cond_false] at h
 generalize hx:S.get x=dx at h
 generalize hy:S.get y=dy at h
 split at h
 case h_2=>cases h
 case h_1 t' el sz _ m _ m2 d hi=>
 have ho:=hc.ty _ _ hi
 split at h
 case h_2=>cases h
 case h_1 z hz=>
 obtain ⟨l,hl,h⟩:=Option.bind_eq_some_iff.1 h
 unfold made at hl
 split at hl
 case isFalse=>cases hl
 case isTrue hm=>
 simp only [Option.some.injEq] at hl
 subst hl
 obtain ⟨S',h1,h2⟩:=uw (C:=C) (G:=G) hn h
 refine ⟨S',h1,fun a w ⟨W,e,eh,oh,hs,hf,hb⟩=>?_⟩
 obtain ⟨hts,happ,_,hfr,hsz0,htz⟩:=ho.sl t' rfl
 obtain ⟨i0,zz,q1,q2,q3,q4,q5,q6,q7⟩:=happ
 obtain ⟨inf,v,p1,p2,p3⟩:=htz (by rw [hz];rfl)
 obtain ⟨h0,r1,_⟩:=qf (φ:=W.φ) hz
 have:=Rp.aP hfr r1
 subst this
 have hinf:inf=i0:=Option.some.inj (p1.symm.trans q2)
 subst hinf
 have hvz:v=zz:=Option.some.inj (p2.symm.trans q3)
 subst hvz
 obtain ⟨n,hn1⟩: ∃ n:Nat,(m:Int)=n:=⟨(m:Int).toNat,(Int.toNat_of_nonneg hm.1).symm⟩
 have hm2:(m2:Int)=n:=by have:=hm.2.1;rw [← this];exact hn1
 have htn:(m:Int).toNat=n:=by rw [hn1];rfl
 have hn47:n*sz≤140737488355328:=by
  have h9:((n*sz:Nat):Int)≤140737488355328:=by rw [Int.natCast_mul, ← hm2];exact hm.2.2
  omega
 have hn47':n≤140737488355328:=Nat.le_trans (Nat.le_mul_of_pos_right _ hsz0) hn47
 have hrun:(execOp a.eval ⟨some d, .makeSlice t x y,ty,pos,af,gd⟩).run P w= .ok (.value (.slice (some ⟨w.heap.size,0,none⟩) n n)) (w.alloc (.cells (List.replicate n (dA t')).flatten.toArray el)):=by
  have e1:=hf.ev (ak hs.env hx)
  have e2:=hf.ev (ak hs.env hy)
  have q5':inf.bytes=sz:=q5
  have hby:inf.bytes*n≤281474976710656:=by rw [q5',Nat.mul_comm];omega
  have hby2:(inf.bytes:Int)*(n:Int)≤281474976710656:=by
   have:((inf.bytes*n:Nat):Int)≤281474976710656:=by omega
   rwa [Int.natCast_mul] at this
  have hr0:=fun kl kc=>run_make (P:=P) w t el inf v q1 q2 q3 kl kc (n:Int) (n:Int) (by omega) (by omega) hby2 (by omega)
  simp only [Int.toNat_natCast,q4] at hr0
  rw [FE q6] at hr0
  have hzl:v.cells.toList=dA t':=by rw [p3]
  rw [hzl] at hr0
  rw [hn1] at e1
  rw [hm2] at e2
  simp [execOp,e1,e2,hr0]
 have hbA:=hb.alloc (.cells (List.replicate n (dA t')).flatten.toArray el)
 have hall: ∀ cx∈List.replicate n (dA t'),cx.length=t'.size:=fun cx hcx=>by rw [(List.mem_replicate.1 hcx).2];exact r1.len
 have hfl:(List.replicate n (dA t')).flatten.length=n*t'.size:=by rw [fI _ hall,List.length_replicate]
 have hbR:=GM (p:=false) hbA hfl (by unfold maxLen;omega)
 refine .value hrun ?_
 have hlr:(List.replicate (m:Int).toNat z).length=n:=by rw [List.length_replicate];exact htn
 have:=h2 W e eh oh (some ⟨w.heap.size,0,none⟩) n (List.replicate n (dA t')) a (w.alloc (.cells (List.replicate n (dA t')).flatten.toArray el)) hs (by rw [hlr];exact Nat.le_refl _) (by rw [htn];exact bz.replicate (R:=fun x cs=>Rp W.φ t' x cs []) r1 n) (fun _=>rfl) hf (by rw [hlr];exact hbR)
 rw [hlr] at this
 exact this
end
end Go.Lf
/-
  Operations that turn more than their slot: cuts, interfaces, rows that grow, calls.
-/
namespace Go.Lf
open Go Go.iM
section
variable {P:Program} {N:Nat} {C:Cx} {G:World→Prop} {c:Ctx} {S:St} {Rt:Type} {k:St→Option Rt} {r:Rt} {a:Act} {w:World}
variable {W:d_} {e:Env} {eh oh:List Chunk} {dst:Option Tmp} {ty:TypeId} {pos:String} {af:Array Edge} {gd:Option (Nat×Bool)}
theorem Sa {φ:bL} {A:Option Addr} {el size n m cc:Nat} {xs:List Value} {rest:List Chunk} (hb:Hb C w (.row false (.slice A n cc) el size n xs::rest) (Inv G φ)) (hm:m≤n):
  Hb C w (.row false (.slice A m cc) el size m (xs.take (m*size))::rest) (Inv G φ):=by
 have hown:w.ownsRow 0 el size (.slice A n cc) n xs:=hb.hp.hold _ List.mem_cons_self
 have hms:m*size≤n*size:=Nat.mul_le_mul_right _ hm
 refine hb.turn (c':= .row false (.slice A m cc) el size m (xs.take (m*size))) (Ext.refl _ _ _) ⟨by rw [List.length_take,hown.1];omega,?_⟩ (fun g hg=> .inl ⟨by cases A<;>exact hg,Nat.le_refl _⟩)
 rcases hown.2 with ⟨hv,hn⟩ | ⟨g,cap,cur,hv,h0,hg,hnc,hcm,hcs,htk⟩
 ·injection hv with e1 e2 e3
  subst e1 e3 hn
  have:m=0:=by omega
  subst this
  exact .inl ⟨rfl,rfl⟩
 ·injection hv with e1 e2 e3
  subst e1 e3
  exact .inr ⟨g,cc,cur,rfl,h0,hg,by omega,hcm,hcs,by rw [← htk,List.take_take,Nat.min_eq_left hms]⟩
theorem MU (hc:aO P G c) (hn:c.n=N) {tx:Nat} {x:Operand} {lo hi:Option Operand} (h:sliceT c tx ⟨dst, .slice tx x lo hi none,ty,pos,af,gd⟩ S x lo hi k=some r): ∃ S',k S'=some r∧ ∀ a w,At N C G S a w→gD P N C G ⟨dst, .slice tx x lo hi none,ty,pos,af,gd⟩ S' a w:=by
 unfold sliceT at h
 cases dst with
 | none=>simp only at h;split at h<;>first | cases h | skip;rename_i h1 h2;cases h2
 | some d=>
 simp only at h
 split at h
 case h_2=>cases h
 case h_1 j p off d' hx hd'=>
 have hd':d=d':=by injection hd'
 subst hd'
 cases hd:mem d c.tk with
 | true=>
  rw [hd] at h
  simp only [cond_true] at h
  split at h
  case h_2=>cases h
  case h_1 el t l S1 hta=>
  cases hb:iy c tx (.sl t) with
  | false=>rw [hb] at h;cases h
  | true=>
   rw [hb] at h
   simp only [cond_true] at h
   obtain ⟨ti,hti,ho⟩:=iU hc.ty hb
   split at h
   case h_2=>cases h
   case h_1 b hbd=>
   obtain ⟨m,hm,h⟩:=Option.bind_eq_some_iff.1 h
   obtain ⟨q1,q2,q3,q4⟩:=Gz hm
   obtain ⟨S',h1,h2⟩:=uw (C:=C) (G:=G) hn h
   refine ⟨S',h1,fun a w ⟨W,e,eh,oh,hs,hf,hb2⟩=>?_⟩
   obtain ⟨v,h0,oh1,b1,b2,b3,b4,_⟩:=rQ hta hs
   obtain ⟨A,cc,css,m1,m2,m3,m4,m5⟩:=b2
   have m2':List.length l≤cc:=m2
   have hv:v= .slice A (List.length l) cc:=by injection m1
   subst hv
   obtain ⟨v',hh,rr,r1,⟨r2,_⟩,_⟩:=fZ hs.env (x:=x) (by rw [hx];intro e;cases e) |>fun ⟨v,hh,rr,q1,q2,q3⟩=>(⟨v,hh,rr,q1,(by rw [hx] at q2;exact q2),q3⟩: ∃ v h r,EV e x v∧((W.hd j)[off]? =some v∧h=[])∧eh.Perm (h++r))
   have hvv:v'= .slice A (List.length l) cc:=Option.some.inj (r2.symm.trans b1)
   subst hvv
   have hbn:b.toNat≤List.length l:=by omega
   have hml:m=l.take b.toNat:=by rw [q4];simp
   have hmn:m.length=b.toNat:=by rw [hml,List.length_take];omega
   have hrun:=R.X6 (P:=P) (N:=N) (C:=C) (hs:=eh++oh) (I:=Inv G W.φ) (d:=some d) (ty:=ty) (pos:=pos) (af:=af) (gd:=gd) (ho.sl t hti).1 r1 (.no:NN e 0 none 0) (wE hs.env hbd rfl (by omega)) (Nat.zero_le _) (by omega) a w hf hb2
   have hcut:BK A cc 0 t.size=A:=by unfold BK;split;rfl;cases A<;>simp [Addr.add]
   rw [hcut,Nat.sub_zero,Nat.sub_zero] at hrun
   refine .value hrun ?_
   have hall: ∀ cx∈css,cx.length=t.size:=fun cx hcx=>by
    obtain ⟨ix,hix⟩:=List.getElem?_of_mem hcx
    have hlt:=(List.getElem?_eq_some_iff.1 hix).1
    rw [← m3.length] at hlt
    obtain ⟨b',hb1,hb3⟩:=m3.get (List.getElem?_eq_getElem hlt)
    rw [hix] at hb1
    injection hb1 with hb1
    subst hb1
    exact hb3.len
   have m5':h0=[.row false (.slice A (List.length l) cc) el t.size (List.length l) css.flatten]:=m5
   rw [m5'] at b4
   have hb3:=Sa (m:=b.toNat) (((Sub.app (Sub.refl eh) b4).trans (Sub.perm (List.perm_append_comm_assoc _ _ _))).hb hb2) hbn
   rw [← tF css hall] at hb3
   have:=h2 W e eh oh1 A cc (css.take b.toNat) a w b3 (by rw [hmn];omega) (by rw [hml];exact m3.take _) (fun hp=>m4 (by rw [hmn] at hp;show 0<List.length l;omega)) hf (by rw [hmn];exact hb3)
   rw [hmn] at this
   exact this
 | false=>
  rw [hd] at h
  simp only [cond_false] at h
  split at h
  case h_2=>cases h
  case h_1 t l S1 hop=>
  cases hb:iy c tx (.sl t) with
  | false=>rw [hb] at h;cases h
  | true=>
   rw [hb] at h
   simp only [cond_true] at h
   obtain ⟨ti,hti,ho⟩:=iU hc.ty hb
   split at h
   case h_2=>cases h
   case h_1 b1 b2 hl hh=>
   obtain ⟨m,hm,h⟩:=Option.bind_eq_some_iff.1 h
   obtain ⟨q1,q2,q3,q4⟩:=Gz hm
   obtain ⟨S',h1,h2⟩:=dz (C:=C) (G:=G) hn h
   refine ⟨S',h1,fun a w ⟨W,e,eh,oh,hs,hf,hb2⟩=>?_⟩
   obtain ⟨t',l',hy,v,φ',oh',g1,g2,g3,g4,g5⟩:=G_ hop hs hb2
   injection hy with hy1 hy2
   injection hy1 with hy1
   subst hy1
   have hy2:=eq_of_heq hy2
   subst hy2
   obtain ⟨A,cc,css,m1,m2,m3,m4,_⟩:=g3
   have hv:v= .slice A (List.length l) cc:=by injection m1
   subst hv
   obtain ⟨v',hh2,rr,r1,⟨r2,_⟩,_⟩:=fZ hs.env (x:=x) (by rw [hx];intro e;cases e) |>fun ⟨v,hh,rr,q1,q2,q3⟩=>(⟨v,hh,rr,q1,(by rw [hx] at q2;exact q2),q3⟩: ∃ v h r,EV e x v∧((W.hd j)[off]? =some v∧h=[])∧eh.Perm (h++r))
   have hvv:v'= .slice A (List.length l) cc:=Option.some.inj (r2.symm.trans g1)
   subst hvv
   have hrun:=R.X6 (P:=P) (N:=N) (C:=C) (hs:=eh++oh) (I:=Inv G W.φ) (d:=some d) (ty:=ty) (pos:=pos) (af:=af) (gd:=gd) (ho.sl t hti).1 r1 (wE hs.env hl rfl q1) (wE hs.env hh rfl (by omega)) (by omega) (by omega) a w hf hb2
   refine .value hrun (h2 ⟨φ',W.aA,W.hd⟩ e eh oh' _ [] a w g4 ⟨_,rfl,rfl,q4▸Rp.cut m2 m3 m4 (a:=b1.toNat) (b:=b2.toNat) (by omega) (by omega)⟩ hf g5)
theorem MJ (hc:aO P G c) (hn:c.n=N) {t:Nat} {x:Operand} (h:oF c ⟨dst, .makeInterface t x,ty,pos,af,gd⟩ S k=some r): ∃ S',k S'=some r∧ ∀ a w,At N C G S a w→gD P N C G ⟨dst, .makeInterface t x,ty,pos,af,gd⟩ S' a w:=by
 simp only [oF] at h
 split at h
 case h_2=>cases h
 case h_1 t' el sz j hi hx=>
 split at h
 case h_2=>cases h
 case h_1 ob hob=>
 split at h
 case isFalse=>cases h
 case isTrue he=>
 split at h
 case h_2=>cases h
 case h_1 tid ht=>
 split at h
 case h_2=>cases h
 case h_1 y hy=>
 obtain ⟨d0,hd0,h⟩: ∃ d0,(∀ (W2:d_) (ad:Addr) (cells:List Value),Rp W2.φ ob.t.er y cells []→(kE W2.φ ad cells∧W2.φ.b ad.block)→DR W2 d0 (.iface t (.pointer (some ad))) [])∧out c ⟨dst, .makeInterface t x,ty,pos,af,gd⟩ ⟨oZ j S.env,sO S.az j⟩ d0 k=some r:=by
  cases htr:Ti c ⟨dst, .makeInterface t x,ty,pos,af,gd⟩ with
  | true=>
   rw [htr] at h
   simp only [cond_true] at h
   obtain ⟨e0,he0,h⟩:=Option.bind_eq_some_iff.1 h
   exact ⟨.v .tr e0,fun W2 ad cells g1 g2=>⟨[_],rfl,rfl,⟨_,rfl,KU (bx:=false) ob.t.er [] [] y e0 cells .nil he0 g1 _ ⟨ad,rfl,by simpa using g2.1,g2.2⟩⟩,rfl⟩,h⟩
  | false=>
   rw [htr] at h
   simp only [cond_false] at h
   exact ⟨.v (.eb t ob.t.er) (some y:Option ob.t.er.den),fun W2 ad cells g1 g2=>⟨[_],rfl,rfl,rfl,_,_,rfl,g1,g2.1⟩,h⟩
 obtain ⟨S',h1,h2⟩:=dz (C:=C) (G:=G) hn h
 refine ⟨S',h1,fun a w ⟨W,e,eh,oh,hs,hf,hb⟩=>?_⟩
 obtain ⟨v,hh,rr,r1,⟨r2,_⟩,_⟩:=fZ hs.env (x:=x) (by rw [hx];intro e;cases e) |>fun ⟨v,hh,rr,q1,q2,q3⟩=>(⟨v,hh,rr,q1,(by rw [hx] at q2;exact q2),q3⟩: ∃ v h r,EV e x v∧(v=Value.pointer (some ⟨W.aA j,0,none⟩)∧h=[])∧eh.Perm (h++r))
 subst r2
 obtain ⟨h0,r',⟨hc0,b1,b2⟩,b3,_,b5⟩:=hs.l9.set hs.nd hob
 rw [ht] at b2
 have b2:h0=blk (W.aA j) tid (W.hd j)::hc0:=b2
 subst b2
 obtain ⟨h',r3,_⟩:=eP hy b1
 have:=Rp.aP (Ty.f_ ob.t).symm r3
 subst this
 have hb1:Hb C w (blk (W.aA j) tid (W.hd j)::(eh++r')) (Inv G W.φ):=by
  refine ((Sub.app (Sub.refl eh) ((Sub.perm b3).trans (?_:Sub _ (blk (W.aA j) tid (W.hd j)::r')))).trans (Sub.perm (List.perm_middle (l₁:=eh)))).hb hb
  exact Sub.cons (Sub.right)
 obtain ⟨φ',f1,f2,f3⟩:=Ju hb1
 obtain ⟨oh',k1,k2⟩:=b5 φ' f1
 have hpt:=((hc.ty _ _ hi).ptr t' rfl).1
 unfold Hf at hpt
 split at hpt
 case h_2=>cases hpt
 case h_1 u hu=>
 have hrun:=R.mi (P:=P) (N:=N) (C:=C) (e:=e) (hs:=eh++oh) (I:=Inv G W.φ) (d:=dst) (ty:=ty) (pos:=pos) (af:=af) (gd:=gd) hu (by intro m e;cases e) r1 a w hf hb
 refine .value hrun (h2 ⟨φ',W.aA,W.hd⟩ e eh oh' _ [] a w ⟨(hs.env.Af j).mono f1 rfl rfl,k1,(mP j hs.nd).1⟩ (hd0 ⟨φ',W.aA,W.hd⟩ _ _ (r3.mono f1) f2) hf ?_)
 exact (Sub.app (Sub.refl eh) (Sub.perm k2.symm)).hb f3
end
end Go.Lf
