/-
  What is known of a frame and of the heap while a walk goes on. Rows that only grow keep what they hold.
  Nothing here names a program: all is over any 'P'.
-/
import Derived.WalkKit
import Derived.WalkSpells
import Derived.WalkLawsBesides
import Derived.StillTail
import Derived.Laws.CopyRow
import Derived.Laws.CopyOwn
import Derived.Maps.AppendAt
import Derived.ChangeKeysEq
import Derived.Laws.StructEq
namespace Go.iM
open Go Go.RowKit
abbrev Env:=List (Nat×Value)
inductive rW:Env→Nat→Value→Prop
 | here {k:Nat} {v:Value} {r:Env}:rW ((k,v)::r) k v
 | there {x:Nat×Value} {k:Nat} {v:Value} {r:Env}:rW r k v→rW (x::r) k v
theorem rW.mem {e:Env} {k:Nat} {v:Value} (h:rW e k v):(k,v)∈e:=by
 induction h with
 | here=>exact List.mem_cons_self
 | there _ ih=>exact List.mem_cons_of_mem _ ih
inductive EV:Env→Operand→Value→Prop
 | t {e:Env} {k:Nat} {v:Value}:rW e k v→EV e (.tmp k) v
 | c {e:Env} {v:Value}:EV e (.const v) v
 | g {e:Env} {n:Nat}:EV e (.global n) (.pointer (some ⟨n,0,none⟩))
 | f {e:Env} {n:Nat}:EV e (.func n) (.func (.func n) #[] #[])
inductive OW:Env→List Operand→List Value→Prop
 | nil {e:Env}:OW e [] []
 | cons {e:Env} {x:Operand} {v:Value} {xs:List Operand} {vs:List Value}:EV e x v→OW e xs vs→OW e (x::xs) (v::vs)
structure Fr (a:Act) (N:Nat) (e:Env):Prop where
 size:a.tmps.size=N
 defers:a.defers=[]
 val: ∀ p∈e,a.tmps.getD p.1 undef=p.2
 nd:(e.map (·.1)).Nodup
theorem Fr.look {a:Act} {N:Nat} {e:Env} (h:Fr a N e) {k:Nat} {v:Value} (hl:rW e k v):a.tmps.getD k undef=v:=h.val _ hl.mem
theorem Fr.ev {a:Act} {N:Nat} {e:Env} (h:Fr a N e) {x:Operand} {v:Value} (hx:EV e x v):a.eval x=v:=by
 cases hx with
 | t hl=>exact h.look hl
 | c=>rfl
 | g=>rfl
 | f=>rfl
theorem Fr.TV {a:Act} {N:Nat} {e:Env} (h:Fr a N e) {xs:List Operand} {vs:List Value} (hx:OW e xs vs):xs.map a.eval=vs:=by
 induction hx with
 | nil=>rfl
 | cons hv _ ih=>simp [h.ev hv,ih]
def fresh (N:Nat) (e:Env) (d:Nat):Bool:=Nat.blt d N && e.all fun p=> !Nat.beq p.1 d
theorem Qg {N:Nat} {e:Env} {d:Nat} (h:fresh N e d=true):d<N:=by
 simp only [fresh,Bool.and_eq_true] at h
 simpa [Nat.blt_eq] using h.1
theorem NG {N:Nat} {e:Env} {d:Nat} (h:fresh N e d=true):d∉e.map (·.1):=by
 simp only [fresh,Bool.and_eq_true,List.all_eq_true] at h
 intro hm
 obtain ⟨p,hp,rfl⟩:=List.mem_map.1 hm
 have:=h.2 p hp
 simp at this
theorem Fr.put {a:Act} {N:Nat} {e:Env} (h:Fr a N e) {d:Nat} {v:Value} (hf:fresh N e d=true):Fr (a.put (some d) v) N ((d,v)::e):=by
 have hlt:=Qg hf
 have hn:=NG hf
 refine ⟨by simp [Act.put,h.size],h.defers,?_,?_⟩
 ·intro p hp
  rcases List.mem_cons.1 hp with rfl | hp
  ·have:d<a.tmps.size:=by rw [h.size];exact hlt
   simp [Act.put,this]
  ·have hne:d≠p.1:=fun e'=>hn (e'▸List.mem_map.2 ⟨p,hp,rfl⟩)
   have:=h.val p hp
   simp only [Act.put,Array.getD_eq_getD_getElem?] at this ⊢
   rw [Array.getElem?_setIfInBounds_ne hne]
   exact this
 ·simp only [List.map_cons,List.nodup_cons]
  exact ⟨hn,h.nd⟩
inductive QR:Env→Nat→Value→Env→Prop
 | here {d:Nat} {u v:Value} {r:Env}:QR ((d,u)::r) d v ((d,v)::r)
 | there {x:Nat×Value} {d:Nat} {v:Value} {r r':Env}:QR r d v r'→QR (x::r) d v (x::r')
theorem QR.keys {e e':Env} {d:Nat} {v:Value} (h:QR e d v e'):e'.map (·.1)=e.map (·.1):=by
 induction h with
 | here=>rfl
 | there _ ih=>simp [ih]
theorem QR.Rw {e e':Env} {d:Nat} {v:Value} (h:QR e d v e'):d∈e.map (·.1):=by
 induction h with
 | here=>simp
 | there _ ih=>exact List.mem_cons_of_mem _ ih
theorem QR.spec {e e':Env} {d:Nat} {v:Value} (h:QR e d v e') (hn:(e.map (·.1)).Nodup): ∀ p∈e',p=(d,v)∨(p∈e∧p.1≠d):=by
 induction h with
 | @here d u v r=>
  intro p hp
  simp only [List.map_cons,List.nodup_cons] at hn
  rcases List.mem_cons.1 hp with rfl | hp
  ·exact .inl rfl
  ·exact .inr ⟨List.mem_cons_of_mem _ hp,fun e'=>hn.1 (e'▸List.mem_map.2 ⟨p,hp,rfl⟩)⟩
 | @there x d v r r' hu ih=>
  intro p hp
  simp only [List.map_cons,List.nodup_cons] at hn
  rcases List.mem_cons.1 hp with rfl | hp
  ·exact .inr ⟨List.mem_cons_self,fun e'=>hn.1 (e'▸hu.Rw)⟩
  ·rcases ih hn.2 p hp with h1 | h1
   ·exact .inl h1
   ·exact .inr ⟨List.mem_cons_of_mem _ h1.1,h1.2⟩
def Zi (N d:Nat):Bool:=Nat.blt d N
theorem Fr.upd {a:Act} {N:Nat} {e e':Env} (h:Fr a N e) {d:Nat} {v:Value} (hu:QR e d v e') (hN:Zi N d=true):Fr (a.put (some d) v) N e':=by
 have hlt:d<a.tmps.size:=by rw [h.size];simpa [Zi,Nat.blt_eq] using hN
 refine ⟨by simp [Act.put,h.size],h.defers,?_,by rw [hu.keys];exact h.nd⟩
 intro p hp
 rcases hu.spec h.nd p hp with rfl | ⟨h1,h2⟩
 ·simp [Act.put,hlt]
 ·have:=h.val p h1
  simp only [Act.put,Array.getD_eq_getD_getElem?] at this ⊢
  rw [Array.getElem?_setIfInBounds_ne (Ne.symm h2)]
  exact this
inductive Sb:Env→Env→Prop
 | nil:Sb [] []
 | kp {k:Nat} {v v':Value} {r r':Env}:v=v'→Sb r r'→Sb ((k,v)::r) ((k,v')::r')
 | dr {x:Nat×Value} {r r':Env}:Sb r r'→Sb (x::r) r'
theorem Sb.mem {e e':Env} (h:Sb e e'): ∀ p∈e',p∈e:=by
 induction h with
 | nil=>simp
 | kp hv _ ih=>
  subst hv
  intro p hp
  rcases List.mem_cons.1 hp with rfl | hp
  ·exact List.mem_cons_self
  ·exact List.mem_cons_of_mem _ (ih p hp)
 | dr _ ih=>exact fun p hp=>List.mem_cons_of_mem _ (ih p hp)
theorem Sb.nd {e e':Env} (h:Sb e e') (hn:(e.map (·.1)).Nodup):(e'.map (·.1)).Nodup:=by
 induction h with
 | nil=>exact hn
 | @kp k v v' r r' hv hs ih=>
  simp only [List.map_cons,List.nodup_cons] at hn ⊢
  refine ⟨fun hm=>hn.1 ?_,ih hn.2⟩
  obtain ⟨p,hp,hpk⟩:=List.mem_map.1 hm
  exact List.mem_map.2 ⟨p,hs.mem p hp,hpk⟩
 | dr _ ih=>
  simp only [List.map_cons,List.nodup_cons] at hn
  exact ih hn.2
theorem Fr.sb {a:Act} {N:Nat} {e e':Env} (h:Fr a N e) (hs:Sb e e'):Fr a N e':=
 ⟨h.size,h.defers,fun p hp=>h.val p (hs.mem p hp),hs.nd h.nd⟩
theorem Fr.dr {a:Act} {N:Nat} {x:Nat×Value} {e:Env} (h:Fr a N (x::e)):Fr a N e:=
 ⟨h.size,h.defers,fun p hp=>h.val p (List.mem_cons_of_mem _ hp),(List.nodup_cons.1 (by simpa using h.nd)).2⟩
inductive Chunk where
 | obj (g:Nat) (o:Obj)
 | row (p:Bool) (v:Value) (t size n:Nat) (xs:List Value)
def Chunk.blk:Chunk→Option Nat
 | .obj g _=>some g
 | .row _ v _ _ _ _=>v.ownBlock
def Chunk.pre:Chunk→Nat
 | .obj _ _=>0
 | .row p _ _ size n _=>bif p then n*size else 0
def Chunk.holds (w:World):Chunk→Prop
 | .obj g o=>w.heap[g]? =some o
 | .row _ v t size n xs=>w.ownsRow 0 t size v n xs
theorem Chunk.keep {w w':World} {c:Chunk} (h:c.holds w) (hk: ∀ g,c.blk=some g→w'.heap[g]? =w.heap[g]?):c.holds w':=by
 cases c with
 | obj g o=>exact (hk g rfl).trans h
 | row p v t size n xs=>
  obtain ⟨h1,h2⟩:=h
  refine ⟨h1,?_⟩
  rcases h2 with h2 | ⟨g,cap,cur,hv,hg,hh,r⟩
  ·exact .inl h2
  ·exact .inr ⟨g,cap,cur,hv,hg,(hk g (by subst hv;rfl)).trans hh,r⟩
theorem Chunk.lt {w:World} {c:Chunk} (h:c.holds w) {g:Nat} (hg:c.blk=some g):g<w.heap.size:=by
 cases c with
 | obj g' o=>
  simp only [Chunk.blk,Option.some.injEq] at hg
  subst hg
  exact (Array.getElem?_eq_some_iff.1 h).1
 | row p v t size n xs=>exact (World.ownsRow.lt h g hg).2
def free (hs:List Chunk) (k:Nat):Prop:= ∀ c∈hs,c.blk≠some k
theorem Gi (ds:List Chunk) (k:Nat):free ds k∨ ∃ c∈ds,c.blk=some k:=by
 by_cases h: ∃ c∈ds,c.blk=some k
 ·exact .inr h
 ·exact .inl fun c hc hck=>h ⟨c,hc,hck⟩
def Same (m:Nat) (w w':World) (k:Nat):Prop:= ∀ a:Addr,a.block=k→a.off<m→w'.cell? a=w.cell? a
theorem Same.refl (m:Nat) (w:World) (k:Nat):Same m w w k:=fun _ _ _=>rfl
theorem Same.of_block {m:Nat} {w w':World} {k:Nat} (h:w'.heap[k]? =w.heap[k]?):Same m w w' k:=fun a ha _=>World.cell?_of_block (by rw [ha];exact h)
theorem Same.zero {w w':World} {k:Nat}:Same 0 w w' k:=fun _ _ h=>absurd h (by omega)
theorem Same.trans {m m':Nat} {w w' w'':World} {k:Nat} (h:Same m w w' k) (h':Same m' w' w'' k) (hm:m≤m'):Same m w w'' k:=fun a ha hm'=>(h' a ha (by omega)).trans (h a ha hm')
theorem Same.le {m m':Nat} {w w':World} {k:Nat} (h:Same m' w w' k) (hm:m≤m'):Same m w w' k:=fun a ha hm'=>h a ha (by omega)
structure Cx where
 w0:World
 Qr:List Chunk
 av:Nat→Option Nat
structure Ext (av:Nat→Option Nat) (hs:List Chunk) (w w':World):Prop where
 os:w'.os=w.os
 tape:w'.tape=w.tape
 output:w'.output=w.output
 size:w.heap.size≤w'.heap.size
 block: ∀ k,k<w.heap.size→av k=none→free hs k→w'.heap[k]? =w.heap[k]?
 Tv: ∀ k m,k<w.heap.size→av k=some m→free hs k→Same m w w' k
 BP: ∀ c∈hs, ∀ k,c.blk=some k→k<w.heap.size→Same c.pre w w' k
theorem Ext.refl (av:Nat→Option Nat) (hs:List Chunk) (w:World):Ext av hs w w:=⟨rfl,rfl,rfl,Nat.le_refl _,fun _ _ _ _=>rfl,fun _ _ _ _ _=>Same.refl _ _ _,fun _ _ _ _ _=>Same.refl _ _ _⟩
def J3 (av:Nat→Option Nat) (hs:List Chunk) (w:World) (I:World→Prop):Prop:= ∀ w',Ext av hs w w'→I w'
section
variable {av av':Nat→Option Nat} {hs hs':List Chunk} {w w':World} {I J:World→Prop}
theorem J3.get (h:J3 av hs w I):I w:=h w (Ext.refl _ _ _)
theorem J3.imp (h:J3 av hs w I) (hj: ∀ w,I w→J w):J3 av hs w J:=fun w' hx=>hj _ (h w' hx)
theorem J3.and (h:J3 av hs w I) (hj:J3 av hs w J):J3 av hs w (fun w=>I w∧J w):=fun w' hx=>⟨h w' hx,hj w' hx⟩
theorem J3.pure {p:Prop} (hp:p):J3 av hs w (fun _=>p):=fun _ _=>hp
theorem Ext.sub (h:Ext av hs w w') (hb: ∀ k,k<w.heap.size→av' k=none→free hs' k→av k=none∧free hs k)
  (hp: ∀ k m,k<w.heap.size→av' k=some m→free hs' k→(av k=none∧free hs k)∨(∃ m',m≤m'∧av k=some m'∧free hs k)∨ ∃ c∈hs,c.blk=some k∧m≤c.pre)
  (hr: ∀ c∈hs', ∀ k,c.blk=some k→k<w.heap.size→(av k=none∧free hs k)∨(∃ m',c.pre≤m'∧av k=some m'∧free hs k)∨ ∃ d∈hs,d.blk=some k∧c.pre≤d.pre):Ext av' hs' w w':=
 ⟨h.os,h.tape,h.output,h.size,fun k hk ha hf=>h.block k hk (hb k hk ha hf).1 (hb k hk ha hf).2,
  fun k m hk ha hf=>by
   rcases hp k m hk ha hf with ⟨h1,h2⟩ | ⟨m',h1,h2,h3⟩ | ⟨c,hc,h1,h2⟩
   ·exact Same.of_block (h.block k hk h1 h2)
   ·exact (h.Tv k m' hk h2 h3).le h1
   ·exact (h.BP c hc k h1 hk).le h2,
  fun c hc k hck hk=>by
   rcases hr c hc k hck hk with ⟨h1,h2⟩ | ⟨m',h1,h2,h3⟩ | ⟨d,hd,h1,h2⟩
   ·exact Same.of_block (h.block k hk h1 h2)
   ·exact (h.Tv k m' hk h2 h3).le h1
   ·exact (h.BP d hd k h1 hk).le h2⟩
end
def Apart (hs:List Chunk):Prop:=hs.Pairwise fun c d=> ∀ g,c.blk=some g→d.blk≠some g
theorem Apart.uniq {hs:List Chunk} (h:Apart hs): ∀ c∈hs, ∀ d∈hs, ∀ g,c.blk=some g→d.blk=some g→c=d:=by
 induction hs with
 | nil=>intro c hc;cases hc
 | cons a r ih=>
  obtain ⟨h1,h2⟩:=List.pairwise_cons.1 h
  intro c hc d hd g hg hdg
  rcases List.mem_cons.1 hc with rfl | hc<;>rcases List.mem_cons.1 hd with rfl | hd
  ·rfl
  ·exact absurd hdg (h1 d hd g hg)
  ·exact absurd hg (h1 c ‹c∈r› g hdg)
  ·exact ih h2 c ‹c∈r› d ‹d∈r› g hg hdg
structure Hp (C:Cx) (w:World) (hs:List Chunk):Prop where
 os:w.os=C.w0.os
 tape:w.tape=C.w0.tape
 output:w.output=C.w0.output
 size:C.w0.heap.size≤w.heap.size
 keep: ∀ k,k<C.w0.heap.size→free C.Qr k→w.heap[k]? =C.w0.heap[k]?
 Oa: ∀ c∈C.Qr, ∀ g,c.blk=some g→g<C.w0.heap.size∧Same c.pre C.w0 w g
 OE: ∀ c∈C.Qr, ∀ g,c.blk=some g→ ∀ d∈hs,d.blk=some g→c.pre≤d.pre
 hold: ∀ c∈hs,c.holds w
 own: ∀ c∈hs, ∀ g,c.blk=some g→(∃ m∈C.Qr,m.blk=some g)∨C.w0.heap.size≤g
 apart:Apart hs
 av: ∀ k m,C.av k=some m→k<C.w0.heap.size∧free C.Qr k
structure Hb (C:Cx) (w:World) (hs:List Chunk) (I:World→Prop):Prop where
 hp:Hp C w hs
 box:J3 C.av hs w I
section
variable {C:Cx} {w w':World} {hs hs':List Chunk} {I J:World→Prop}
theorem Hb.get (h:Hb C w hs I):I w:=h.box.get
theorem Hp.KO (h:Hp C w hs) {c:Chunk} (hc:c∈hs) {g:Nat} (hg:c.blk=some g):C.av g=none:=by
 cases ha:C.av g with
 | none=>rfl
 | some m=>
  have h1:=h.av g m ha
  rcases h.own c hc g hg with ⟨d,hd,hdg⟩ | h2
  ·exact absurd hdg (h1.2 d hd)
  ·omega
theorem Hb.step (h:Hb C w hs I) (x:Ext (fun _=>none) hs w w') (hold: ∀ c∈hs',c.holds w')
  (own: ∀ c∈hs', ∀ g,c.blk=some g→(∃ d∈hs,d.blk=some g)∨w.heap.size≤g)
  (ap:Apart hs') (pre: ∀ c∈hs, ∀ g,c.blk=some g→ ∀ d∈hs',d.blk=some g→c.pre≤d.pre):Hb C w' hs' I:=by
 refine ⟨⟨x.os.trans h.hp.os,x.tape.trans h.hp.tape,x.output.trans h.hp.output,Nat.le_trans h.hp.size x.size,?_,?_,?_,hold,?_,ap,h.hp.av⟩,?_⟩
 ·intro k hk hm
  rw [x.block k (Nat.lt_of_lt_of_le hk h.hp.size) rfl ?_]
  ·exact h.hp.keep k hk hm
  ·intro c hc hck
   rcases h.hp.own c hc k hck with ⟨d,hd,hdk⟩ | h1
   ·exact hm d hd hdk
   ·omega
 ·intro c hc g hg
  have h1:=h.hp.Oa c hc g hg
  have hlt:=Nat.lt_of_lt_of_le h1.1 h.hp.size
  refine ⟨h1.1,?_⟩
  rcases Gi hs g with hf | ⟨d,hd,hdg⟩
  ·exact h1.2.trans (Same.of_block (m:=c.pre) (x.block g hlt rfl hf)) (Nat.le_refl _)
  ·exact h1.2.trans (x.BP d hd g hdg hlt) (h.hp.OE c hc g hg d hd hdg)
 ·intro c hc g hg d hd hdg
  rcases own d hd g hdg with ⟨e,he,heg⟩ | h1
  ·exact Nat.le_trans (h.hp.OE c hc g hg e he heg) (pre e he g heg d hd hdg)
  ·have:=(h.hp.Oa c hc g hg).1
   have:=h.hp.size
   omega
 ·intro c hc g hg
  rcases own c hc g hg with ⟨d,hd,hdg⟩ | h1
  ·exact h.hp.own d hd g hdg
  ·exact .inr (Nat.le_trans h.hp.size h1)
 ·intro w2 x2
  have hfree: ∀ k,k<w.heap.size→free hs k→free hs' k:=fun k hk hf c hc hck=>by
   rcases own c hc k hck with ⟨d,hd,hdg⟩ | h1
   ·exact hf d hd hdg
   ·omega
  refine h.box w2 ⟨x2.os.trans x.os,x2.tape.trans x.tape,x2.output.trans x.output,Nat.le_trans x.size x2.size,fun k hk ha hf=>?_,fun k m hk ha hf=>?_,fun c hc k hck hk=>?_⟩
  ·rw [x2.block k (Nat.lt_of_lt_of_le hk x.size) ha (hfree k hk hf)]
   exact x.block k hk rfl hf
  ·exact (Same.of_block (x.block k hk rfl hf)).trans (x2.Tv k m (Nat.lt_of_lt_of_le hk x.size) ha (hfree k hk hf)) (Nat.le_refl _)
  ·have h1:=x.BP c hc k hck hk
   by_cases hf':free hs' k
   ·exact h1.trans (Same.of_block (m:=c.pre) (x2.block k (Nat.lt_of_lt_of_le hk x.size) (h.hp.KO hc hck) hf')) (Nat.le_refl _)
   ·have: ∃ d∈hs',d.blk=some k:=Classical.byContradiction fun hno=>hf' fun d hd hdk=>hno ⟨d,hd,hdk⟩
    obtain ⟨d,hd,hdk⟩:=this
    exact h1.trans (x2.BP d hd k hdk (Nat.lt_of_lt_of_le hk x.size)) (pre c hc k hck d hd hdk)
theorem Hb.same (h:Hb C w hs I) (h1:w'.os=w.os) (h2:w'.tape=w.tape) (h3:w'.output=w.output) (h4:w'.heap=w.heap):Hb C w' hs I:=
 h.step ⟨h1,h2,h3,by rw [h4];exact Nat.le_refl _,fun _ _ _ _=>by rw [h4],fun k _ _ _ _=>Same.of_block (by rw [h4]),fun _ _ k _ _=>Same.of_block (by rw [h4])⟩
  (fun c hc=>Chunk.keep (h.hp.hold c hc) fun g _=>by rw [h4])
  (fun c hc g hg=> .inl ⟨c,hc,hg⟩) h.hp.apart (fun c hc g hg d hd hdg=>by rw [h.hp.apart.uniq c hc d hd g hg hdg];exact Nat.le_refl _)
theorem Hb.drew (h:Hb C w hs I):Hb C w.drew hs I:=h.same rfl rfl rfl rfl
theorem Hb.grow (h:Hb C w hs I) (x:Ext (fun _=>none) [] w w'):Hb C w' hs I:=by
 have hblk: ∀ k,k<w.heap.size→w'.heap[k]? =w.heap[k]? :=fun k hk=>x.block k hk rfl (fun _ hc=>absurd hc (by simp))
 exact h.step ⟨x.os,x.tape,x.output,x.size,fun k hk _ _=>hblk k hk,fun k _ hk _ _=>Same.of_block (hblk k hk),fun _ _ k _ hk=>Same.of_block (hblk k hk)⟩
  (fun c hc=>Chunk.keep (h.hp.hold c hc) fun g hg=>hblk g (Chunk.lt (h.hp.hold c hc) hg))
  (fun c hc g hg=> .inl ⟨c,hc,hg⟩) h.hp.apart (fun c hc g hg d hd hdg=>by rw [h.hp.apart.uniq c hc d hd g hg hdg];exact Nat.le_refl _)
theorem Hb.alloc (h:Hb C w hs I) (o:Obj):Hb C (w.alloc o) (.obj w.heap.size o::hs) I:=by
 have hkeep: ∀ k,k<w.heap.size→(w.alloc o).heap[k]? =w.heap[k]? :=fun k hk=>Below.heap_alloc w o k hk
 refine h.step ⟨rfl,rfl,rfl,by simp,fun k hk _ _=>hkeep k hk,fun k _ hk _ _=>Same.of_block (hkeep k hk),fun _ _ k _ hk=>Same.of_block (hkeep k hk)⟩ ?_ ?_ ?_ ?_
 ·intro c hc
  rcases List.mem_cons.1 hc with rfl | hc
  ·exact heap_alloc_new w o
  ·exact Chunk.keep (h.hp.hold c hc) fun g hg=>hkeep g (Chunk.lt (h.hp.hold c hc) hg)
 ·intro c hc g hg
  rcases List.mem_cons.1 hc with rfl | hc
  ·simp only [Chunk.blk,Option.some.injEq] at hg
   exact .inr (by omega)
  ·exact .inl ⟨c,hc,hg⟩
 ·refine List.pairwise_cons.2 ⟨fun d hd g hg hdg=>?_,h.hp.apart⟩
  simp only [Chunk.blk,Option.some.injEq] at hg
  have:=Chunk.lt (h.hp.hold d hd) hdg
  omega
 ·intro c hc g hg d hd hdg
  rcases List.mem_cons.1 hd with rfl | hd
  ·simp only [Chunk.blk,Option.some.injEq] at hdg
   have:=Chunk.lt (h.hp.hold c hc) hg
   omega
  ·rw [h.hp.apart.uniq c hc d hd g hg hdg];exact Nat.le_refl _
theorem Apart.perm {l l':List Chunk} (h:Apart l) (p:l.Perm l'):Apart l':=
 List.Pairwise.perm (show List.Pairwise _ l from h) p fun hxy g hx hy=>hxy g hy hx
theorem Ext.perm {av:Nat→Option Nat} (x:Ext av hs w w') (p:hs.Perm hs'):Ext av hs' w w':=
 ⟨x.os,x.tape,x.output,x.size,fun k hk ha hf=>x.block k hk ha fun c hc=>hf c (p.mem_iff.1 hc),fun k m hk ha hf=>x.Tv k m hk ha fun c hc=>hf c (p.mem_iff.1 hc),fun c hc=>x.BP c (p.mem_iff.2 hc)⟩
theorem Hb.perm (h:Hb C w hs I) (p:hs.Perm hs'):Hb C w hs' I:=
 ⟨⟨h.hp.os,h.hp.tape,h.hp.output,h.hp.size,h.hp.keep,h.hp.Oa,fun c hc g hg d hd=>h.hp.OE c hc g hg d (p.mem_iff.2 hd),fun c hc=>h.hp.hold c (p.mem_iff.2 hc),fun c hc=>h.hp.own c (p.mem_iff.2 hc),h.hp.apart.perm p,h.hp.av⟩,
  fun w' x=>h.box w' (x.perm p.symm)⟩
theorem Hb.turn {c c':Chunk} {r:List Chunk} (h:Hb C w (c::r) I) (x:Ext (fun _=>none) [c] w w') (hh:c'.holds w')
  (hb: ∀ g,c'.blk=some g→(c.blk=some g∧c.pre≤c'.pre)∨w.heap.size≤g):Hb C w' (c'::r) I:=by
 obtain ⟨ap1,ap2⟩:=List.pairwise_cons.1 h.hp.apart
 have hc:c∈c::r:=List.mem_cons_self
 have hone: ∀ k,free (c::r) k→free [c] k:=fun k hf d hd=>by
  have:d=c:=by simpa using hd
  subst this;exact hf _ hc
 have hr: ∀ d∈r, ∀ g,d.blk=some g→free [c] g:=fun d hd g hg e he heg=>by
  have:e=c:=by simpa using he
  subst this;exact ap1 d hd g heg hg
 have hkeep: ∀ d∈r, ∀ g,d.blk=some g→w'.heap[g]? =w.heap[g]? :=fun d hd g hg=>x.block g (Chunk.lt (h.hp.hold d (List.mem_cons_of_mem _ hd)) hg) rfl (hr d hd g hg)
 refine h.step ⟨x.os,x.tape,x.output,x.size,fun k hk _ hf=>x.block k hk rfl (hone k hf),fun k m hk _ hf=>Same.of_block (x.block k hk rfl (hone k hf)),fun d hd k hdk hk=>?_⟩ ?_ ?_ ?_ ?_
 ·rcases List.mem_cons.1 hd with rfl | hd
  ·exact x.BP _ (by simp) k hdk hk
  ·exact Same.of_block (hkeep d hd k hdk)
 ·intro d hd
  rcases List.mem_cons.1 hd with rfl | hd
  ·exact hh
  ·exact Chunk.keep (h.hp.hold d (List.mem_cons_of_mem _ hd)) fun g hg=>hkeep d hd g hg
 ·intro d hd g hg
  rcases List.mem_cons.1 hd with rfl | hd
  ·exact (hb g hg).imp (fun h3=>⟨c,hc,h3.1⟩) id
  ·exact .inl ⟨d,List.mem_cons_of_mem _ hd,hg⟩
 ·refine List.pairwise_cons.2 ⟨fun d hd g hg hdg=>?_,ap2⟩
  rcases hb g hg with h3 | h3
  ·exact ap1 d hd g h3.1 hdg
  ·have:=Chunk.lt (h.hp.hold d (List.mem_cons_of_mem _ hd)) hdg
   omega
 ·intro d hd g hg e he heg
  have hlt:=Chunk.lt (h.hp.hold d hd) hg
  rcases List.mem_cons.1 hd with rfl | hd<;>rcases List.mem_cons.1 he with rfl | he
  ·rcases hb g heg with h3 | h3
   ·exact h3.2
   ·omega
  ·exact absurd heg (ap1 e he g hg)
  ·rcases hb g heg with h3 | h3
   ·exact absurd hg (ap1 d hd g h3.1)
   ·omega
  ·rw [Apart.uniq ap2 d hd e he g hg heg];exact Nat.le_refl _
def XW (w:World) (l:List Chunk):Prop:= ∀ c∈l,c.holds w
theorem Hb.weak {ks ds:List Chunk} (h:Hb C w (ds++ks) I) (hI: ∀ w,I w→XW w ds→J w):Hb C w ks J:=by
 have ap:=List.pairwise_append.1 h.hp.apart
 have hm: ∀ c∈ks,c∈ds++ks:=fun c hc=>List.mem_append_right _ hc
 refine ⟨⟨h.hp.os,h.hp.tape,h.hp.output,h.hp.size,h.hp.keep,h.hp.Oa,fun c hc g hg d hd=>h.hp.OE c hc g hg d (hm d hd),fun c hc=>h.hp.hold c (hm c hc),fun c hc=>h.hp.own c (hm c hc),ap.2.1,h.hp.av⟩,?_⟩
 intro w' x
 have hds: ∀ c∈ds, ∀ g,c.blk=some g→w'.heap[g]? =w.heap[g]? :=fun c hc g hg=>
  x.block g (Chunk.lt (h.hp.hold c (List.mem_append_left _ hc)) hg) (h.hp.KO (List.mem_append_left _ hc) hg) fun d hd hdg=>ap.2.2 c hc d hd g hg hdg
 have hfree: ∀ k,free (ds++ks) k→free ks k:=fun k hf c hc=>hf c (hm c hc)
 refine hI w' (h.box w' ⟨x.os,x.tape,x.output,x.size,fun k hk ha hf=>x.block k hk ha (hfree k hf),fun k m hk ha hf=>x.Tv k m hk ha (hfree k hf),fun c hc k hck hk=>?_⟩) (fun c hc=>?_)
 ·rcases List.mem_append.1 hc with hc | hc
  ·exact Same.of_block (hds c hc k hck)
  ·exact x.BP c hc k hck hk
 ·exact Chunk.keep (h.hp.hold c (List.mem_append_left _ hc)) fun g hg=>hds c hc g hg
theorem Hb.imp (h:Hb C w hs I) (hI: ∀ w,I w→J w):Hb C w hs J:=⟨h.hp,h.box.imp hI⟩
theorem Hb.and (h:Hb C w hs I) (hJ:J3 C.av hs w J):Hb C w hs (fun w=>I w∧J w):=⟨h.hp,h.box.and hJ⟩
theorem Hb.Sr {v:Value} {t size n:Nat} {xs:List Value} {g:Nat} (h:Hb C w hs I) (hc:Chunk.row true v t size n xs∈hs) (hv:v.ownBlock=some g):
  J3 C.av hs w (fun w'=> ∀ j u,xs[j]? =some u→w'.cell? ((⟨g,0,none⟩:Addr).add j)=some u):=by
 intro w' x j u hu
 have h1:w.ownsRow 0 t size v n xs:=h.hp.hold _ hc
 have h2:=h1.cells hv j u hu
 rw [← h2]
 have hlt:=Chunk.lt (h.hp.hold _ hc) (show (Chunk.row true v t size n xs).blk=some g from hv)
 refine x.BP _ hc g hv hlt _ (by unfold Addr.add;split<;>rfl) ?_
 have hj:j<n*size:=by
  have:=(List.getElem?_eq_some_iff.1 hu).1
  rwa [h1.1] at this
 have:((⟨g,0,none⟩:Addr).add j).off=j:=by unfold Addr.add;split<;>simp_all
 rw [this]
 exact hj
def FY (av:Nat→Option Nat) (ds:List Chunk) (k:Nat):Option Nat:=match ds.find? (fun c=>decide (c.blk=some k)) with
 | some c=>some c.pre
 | none=>av k
theorem sS {av:Nat→Option Nat} {ds:List Chunk} {k:Nat} (h:free ds k):FY av ds k=av k:=by
 unfold FY
 have:ds.find? (fun c=>decide (c.blk=some k))=none:=List.find?_eq_none.2 fun c hc=>by simpa using h c hc
 rw [this]
theorem G8 {av:Nat→Option Nat} {ds:List Chunk} {k:Nat} (ap:Apart ds) {c:Chunk} (hc:c∈ds) (hk:c.blk=some k):FY av ds k=some c.pre:=by
 unfold FY
 cases hf:ds.find? (fun c=>decide (c.blk=some k)) with
 | none=>exact absurd hk (by simpa using List.find?_eq_none.1 hf c hc)
 | some d=>
  have h1:d.blk=some k:=by simpa using List.find?_some hf
  rw [ap.uniq c hc d (List.mem_of_find?_eq_some hf) k hk h1]
def Cx.sub (C:Cx) (w:World) (ks ds:List Chunk):Cx:=⟨w,ks,FY C.av ds⟩
theorem Hb.pass {ks ds:List Chunk} (h:Hb C w (ks++ds) I):Hb (C.sub w ks ds) w ks I:=by
 have ap:=List.pairwise_append.1 h.hp.apart
 have hk: ∀ c∈ks,c∈ks++ds:=fun c hc=>List.mem_append_left _ hc
 have hd: ∀ c∈ds,c∈ks++ds:=fun c hc=>List.mem_append_right _ hc
 refine ⟨⟨rfl,rfl,rfl,Nat.le_refl _,fun _ _ _=>rfl,fun c hc g hg=>⟨Chunk.lt (h.hp.hold c (hk c hc)) hg,Same.refl _ _ _⟩,fun c hc g hg d hd' hdg=>(by rw [Apart.uniq ap.1 c hc d hd' g hg hdg];exact Nat.le_refl _),fun c hc=>h.hp.hold c (hk c hc),fun c hc g hg=> .inl ⟨c,hc,hg⟩,ap.1,?_⟩,?_⟩
 ·intro k m hkm
  rcases Gi ds k with hf | ⟨c,hc,hck⟩
  ·have hkm':C.av k=some m:=by rw [← sS (av:=C.av) hf];exact hkm
   have h1:=h.hp.av k m hkm'
   refine ⟨Nat.lt_of_lt_of_le h1.1 h.hp.size,fun c hc hck=>?_⟩
   have h2:=h.hp.KO (hk c hc) hck
   rw [hkm'] at h2;cases h2
  ·exact ⟨Chunk.lt (h.hp.hold c (hd c hc)) hck,fun d hd' hdk=>ap.2.2 d hd' c hc k hdk hck⟩
 ·intro w' x
  refine h.box w' ⟨x.os,x.tape,x.output,x.size,fun k hk' ha hf=>?_,fun k m hk' ha hf=>?_,fun c hc k hck hk'=>?_⟩
  ·exact x.block k hk' (by rw [show (C.sub w ks ds).av=FY C.av ds from rfl,sS (av:=C.av) fun c hc=>hf c (hd c hc)];exact ha) fun c hc=>hf c (hk c hc)
  ·exact x.Tv k m hk' (by rw [show (C.sub w ks ds).av=FY C.av ds from rfl,sS (av:=C.av) fun c hc=>hf c (hd c hc)];exact ha) fun c hc=>hf c (hk c hc)
  ·rcases List.mem_append.1 hc with hc | hc
   ·exact x.BP c hc k hck hk'
   ·exact x.Tv k c.pre hk' (G8 ap.2.1 hc hck) fun d hd' hdk=>ap.2.2 d hd' c hc k hdk hck
theorem Hb.back {ks ds rs:List Chunk} {F:World→Prop} (h:Hb C w (ks++ds) I) (k:Hb (C.sub w ks ds) w' rs F):Hb C w' (rs++ds) (fun w=>I w∧F w):=by
 have ap:=List.pairwise_append.1 h.hp.apart
 have hkm: ∀ c∈ks,c∈ks++ds:=fun c hc=>List.mem_append_left _ hc
 have hdm: ∀ c∈ds,c∈ks++ds:=fun c hc=>List.mem_append_right _ hc
 have hown: ∀ c∈rs, ∀ g,c.blk=some g→(∃ d∈ks,d.blk=some g)∨w.heap.size≤g:=fun c hc g hg=>k.hp.own c hc g hg
 have hkeep: ∀ g,g<w.heap.size→(∀ d∈ks,d.blk≠some g)→w'.heap[g]? =w.heap[g]? :=fun g hg hd=>k.hp.keep g hg fun d hd' hdg=>hd d hd' hdg
 have hds: ∀ c∈ds, ∀ g,c.blk=some g→w'.heap[g]? =w.heap[g]? :=fun c hc g hg=>hkeep g (Chunk.lt (h.hp.hold c (hdm c hc)) hg) fun d hd hdg=>ap.2.2 d hd c hc g hdg hg
 have h1:Hb C w' (rs++ds) I:=by
  refine h.step ⟨k.hp.os,k.hp.tape,k.hp.output,k.hp.size,fun g hg _ hf=>hkeep g hg fun d hd=>hf d (hkm d hd),fun g m hg _ hf=>Same.of_block (hkeep g hg fun d hd=>hf d (hkm d hd)),fun c hc g hcg hg=>?_⟩ ?_ ?_ ?_ ?_
  ·rcases List.mem_append.1 hc with hc | hc
   ·exact (k.hp.Oa c hc g hcg).2
   ·exact Same.of_block (hds c hc g hcg)
  ·intro c hc
   rcases List.mem_append.1 hc with hc | hc
   ·exact k.hp.hold c hc
   ·exact Chunk.keep (h.hp.hold c (hdm c hc)) fun g hg=>hds c hc g hg
  ·intro c hc g hg
   rcases List.mem_append.1 hc with hc | hc
   ·exact (hown c hc g hg).imp (fun ⟨d,hd,hdg⟩=>⟨d,hkm d hd,hdg⟩) id
   ·exact .inl ⟨c,hdm c hc,hg⟩
  ·refine List.pairwise_append.2 ⟨k.hp.apart,ap.2.1,fun c hc d hd g hg hdg=>?_⟩
   have h2:=Chunk.lt (h.hp.hold d (hdm d hd)) hdg
   rcases hown c hc g hg with ⟨d',hd',hdg'⟩ | h3
   ·exact ap.2.2 d' hd' d hd g hdg' hdg
   ·omega
  ·intro c hc g hg d hd hdg
   have hlt:=Chunk.lt (h.hp.hold c hc) hg
   rcases List.mem_append.1 hc with hc | hc<;>rcases List.mem_append.1 hd with hd | hd
   ·exact k.hp.OE c hc g hg d hd hdg
   ·exact absurd hdg (ap.2.2 c hc d hd g hg)
   ·rcases hown d hd g hdg with ⟨d',hd',hdg'⟩ | h3
    ·exact absurd hg (ap.2.2 d' hd' c hc g hdg')
    ·omega
   ·rw [Apart.uniq ap.2.1 c hc d hd g hg hdg];exact Nat.le_refl _
 refine ⟨h1.hp,h1.box.and fun w2 x2=>k.box w2 ⟨x2.os,x2.tape,x2.output,x2.size,fun g hg ha hf=>?_,fun g m hg ha hf=>?_,fun c hc=>x2.BP c (List.mem_append_left _ hc)⟩⟩
 ·have hfd:free ds g:=fun c hc hcg=>by
   have h3:=G8 (av:=C.av) ap.2.1 hc hcg
   rw [show (C.sub w ks ds).av g=FY C.av ds g from rfl] at ha
   rw [h3] at ha;cases ha
  refine x2.block g hg (by rw [← sS (av:=C.av) (ds:=ds) hfd];exact ha) fun c hc=>?_
  rcases List.mem_append.1 hc with hc | hc
  ·exact hf c hc
  ·exact hfd c hc
 ·rcases Gi ds g with hfd | ⟨c,hc,hcg⟩
  ·refine x2.Tv g m hg (by rw [← sS (av:=C.av) (ds:=ds) hfd];exact ha) fun c hc=>?_
   rcases List.mem_append.1 hc with hc | hc
   ·exact hf c hc
   ·exact hfd c hc
  ·have h3:=G8 (av:=C.av) ap.2.1 hc hcg
   have h4:m=c.pre:=by
    have h5:FY C.av ds g=some m:=ha
    rw [h3] at h5;injection h5 with h5;exact h5.symm
   rw [h4]
   exact x2.BP c (List.mem_append_right _ hc) g hcg hg
end
end Go.iM
/-
  What an operation comes to.
-/
namespace Go.iM
open Go Go.RowKit
section
variable (P:Program) (N:Nat) (C:Cx)
def gP (e:Env) (hs:List Chunk) (I:World→Prop) (o:Oper) (v:Value):Prop:=
 ∀ a w,Fr a N e→Hb C w hs I→(execOp a.eval o).run P w= .ok (.value v) w
end
section
variable {P:Program} {N:Nat} {C:Cx} {e e':Env} {hs hs':List Chunk} {I J:World→Prop}
def zy (P:Program) (f:FuncId):Prop:= ∃ fn,P.funcs[f]? =some fn∧ ¬ fn.name= "runtime.NumGoroutine" ∧ ¬ fn.body=none
theorem zy.mk {f:FuncId} (fn:Func) (h1:P.funcs[f]? =some fn) (h2:(fn.name == "runtime.NumGoroutine")=false) (h3:fn.body.isNone=false):zy P f:=
 ⟨fn,h1,by simpa using h2,fun h=>by rw [h] at h3;cases h3⟩
theorem zK {f:FuncId} (hg:zy P f) {a:Act} {ars:List Operand} {ats:Array TypeId} {vs:List Value} {w:World} {d:Option Tmp} {ty:TypeId} {pos:String} {af:Array Edge} {gd:Option (Nat×Bool)}
  {fo:Operand} (hfo:a.eval fo= .func (.func f) #[] #[]) (hv:ars.map a.eval=vs):
  (execOp a.eval ⟨d, .call ⟨.value fo,ars.toArray,ats⟩,ty,pos,af,gd⟩).run P w= .ok (.enter f vs.toArray) w:=by
 obtain ⟨fn,h1,h2,h3⟩:=hg
 subst hv
 simp [execOp,resolve,Deferred.ofValue,invoke,callFunc,hfo,h1,h2,h3]
theorem M8 {f:FuncId} (hg:zy P f) {a:Act} {ars:List Operand} {ats:Array TypeId} {vs us us':List Value} {w:World} {d:Option Tmp} {ty:TypeId} {pos:String} {af:Array Edge} {gd:Option (Nat×Bool)}
  {fo:Operand} (hfo:a.eval fo= .func (.func f) us.toArray us'.toArray) (hv:ars.map a.eval=vs):
  (execOp a.eval ⟨d, .call ⟨.value fo,ars.toArray,ats⟩,ty,pos,af,gd⟩).run P w= .ok (.enter f (us++(vs++us')).toArray) w:=by
 obtain ⟨fn,h1,h2,h3⟩:=hg
 subst hv
 simp [execOp,resolve,Deferred.ofValue,invoke,callFunc,hfo,h1,h2,h3]
end
end Go.iM
/-
  The engine's operations: one lemma for each kind.
-/
namespace Go.iM
open Go Go.RowKit
def Ej (P:Program) (t:TypeId):Bool:=match P.underlying t with | some (.struct _)=>false | some (.array _ _)=>false | some _=>true | none=>false
def NK (P:Program) (t:TypeId) (n:Nat):Bool:=(match P.underlying t with | some (.struct _)=>true | some (.array _ _)=>true | _=>false) && (match P.info? t with | some i=>Nat.beq i.size n | none=>false)
def Bw (P:Program) (t:TypeId) (n:Nat):Bool:=match P.info? t with | some i=>Nat.beq i.size n | none=>false
def Lt (P:Program) (s f o:Nat):Bool:=match P.underlying s with
 | some (.struct fs)=>(match fs[f]? with | some x=>(match P.info? x.type with | some i=>decide (i.size≠0) && Nat.beq x.offset o | none=>false) | none=>false)
 | _=>false
def QT (P:Program) (t e s:Nat):Bool:=(match P.underlying t with | some (.slice e')=>Nat.beq e e' | _=>false) && Bw P e s
def tZ (P:Program) (t:Nat) (z:List Value):Prop:= ∃ i v,P.info? t=some i∧i.zero=some v∧v.cells=z.toArray
section
variable {P:Program}
theorem D9 {t:TypeId} (h:Ej P t=true): ∀ w,(isAgg t).run P w= .ok false w:=by
 intro w
 unfold Ej at h
 split at h<;>first | cases h | skip
 rename_i d h1 h2 hd
 simp only [isAgg,Sem.run_bind,run_underlying hd,Result.andThen_ok]
 cases d<;>first | exact absurd rfl (h1 _) | exact absurd rfl (h2 _ _) | rfl
theorem tK {t n:Nat} (h:Bw P t n=true): ∃ i,P.info? t=some i∧i.size=n:=by
 unfold Bw at h
 split at h
 ·rename_i i hi;exact ⟨i,hi,by simpa using h⟩
 ·cases h
theorem zw {t n:Nat} (h:NK P t n=true):(∀ w,(isAgg t).run P w= .ok true w)∧ ∃ i,P.info? t=some i∧i.size=n:=by
 unfold NK at h
 simp only [Bool.and_eq_true] at h
 refine ⟨fun w=>?_,tK (by unfold Bw;exact h.2)⟩
 have h1:=h.1
 split at h1<;>first | cases h1 | skip
 ·rename_i hd
  simp only [isAgg,Sem.run_bind,run_underlying hd,Result.andThen_ok]
  rfl
 ·rename_i hd
  simp only [isAgg,Sem.run_bind,run_underlying hd,Result.andThen_ok]
  rfl
theorem bG {t n:Nat} (h:Bw P t n=true) (w:World):(sizeOf t).run P w= .ok n w:=by
 obtain ⟨i,hi,hs⟩:=tK h
 simp [sizeOf,typeInfo,hi,hs]
theorem zt {s f o:Nat} (h:Lt P s f o=true): ∃ fs x i,P.underlying s=some (.struct fs)∧fs[f]? =some x∧P.info? x.type=some i∧i.size≠0∧x.offset=o:=by
 unfold Lt at h
 split at h<;>first | cases h | skip
 rename_i fs hs
 split at h<;>first | cases h | skip
 rename_i x hx
 split at h<;>first | cases h | skip
 rename_i i hi
 simp only [Bool.and_eq_true] at h
 exact ⟨fs,x,i,hs,hx,hi,by simpa using h.1,by simpa using h.2⟩
theorem dM {t e s:Nat} (h:QT P t e s=true):P.underlying t=some (.slice e)∧Bw P e s=true:=by
 unfold QT at h
 simp only [Bool.and_eq_true] at h
 refine ⟨?_,h.2⟩
 have h1:=h.1
 split at h1
 ·rename_i e' he
  have:e=e':=by simpa using h1
  rw [this];exact he
 ·cases h1
end
inductive C9:List Value→Nat→Nat→List Value→Prop
 | zero {l:List Value}:C9 l 0 0 []
 | here {x:Value} {r vs:List Value} {n:Nat}:C9 r 0 n vs→C9 (x::r) 0 (n+1) (x::vs)
 | skip {x:Value} {r vs:List Value} {o n:Nat}:C9 r o n vs→C9 (x::r) (o+1) n vs
theorem C9.spec {l vs:List Value} {o n:Nat} (h:C9 l o n vs):vs.length=n∧ ∀ j v,vs[j]? =some v→l[o+j]? =some v:=by
 induction h with
 | zero=>exact ⟨rfl,by simp⟩
 | here _ ih=>
  refine ⟨by simp [ih.1],fun j v hj=>?_⟩
  cases j with
  | zero=>simpa using hj
  | succ j=>
   have:=ih.2 j v (by simpa using hj)
   simpa using this
 | @skip x r vs o n _ ih=>
  refine ⟨ih.1,fun j v hj=>?_⟩
  rw [show o+1+j=(o+j)+1 by omega,List.getElem?_cons_succ]
  exact ih.2 j v hj
theorem C9.one {l:List Value} {o:Nat} {v:Value} (h:C9 l o 1 [v]):l[o]? =some v:=by
 have:=h.spec.2 0 v rfl
 simpa using this
inductive Ee:List Value→Nat→List Value→List Value→Prop
 | zero {l:List Value}:Ee l 0 [] l
 | here {x v:Value} {r r' vs:List Value}:Ee r 0 vs r'→Ee (x::r) 0 (v::vs) (v::r')
 | skip {x:Value} {r r' vs:List Value} {o:Nat}:Ee r o vs r'→Ee (x::r) (o+1) vs (x::r')
theorem Ee.spec {l l' vs:List Value} {o:Nat} (h:Ee l o vs l'):o+vs.length≤l.length∧l'=l.take o++vs++l.drop (o+vs.length):=by
 induction h with
 | zero=>simp
 | here _ ih=>exact ⟨by have:=ih.1;simp at this ⊢;omega,by simp [ih.2]⟩
 | @skip x r r' vs o _ ih=>
  refine ⟨by have:=ih.1;simp at this ⊢;omega,?_⟩
  rw [ih.2,show o+1+vs.length=(o+vs.length)+1 by omega]
  simp
@[reducible] def blk (g t:Nat) (l:List Value):Chunk:= .obj g (.cells l.toArray t (0,0))
def Has (hs:List Chunk) (c:Chunk):Prop:=c∈hs
section
variable {P:Program} {N:Nat} {C:Cx} {Q:Exit→Act→World→Prop} {e e':Env} {hs hs':List Chunk} {I J:World→Prop}
variable {d:Option Tmp} {ty:TypeId} {pos:String} {af:Array Edge} {gd:Option (Nat×Bool)}
theorem R.mv {x:Operand} {v:Value} (hx:EV e x v):gP P N C e hs I ⟨d, .move x,ty,pos,af,gd⟩ v:=fun a w hf _=>by
 rw [← hf.ev hx];rfl
theorem R.as {x:Operand} {v:Value} (hx:EV e x v):gP P N C e hs I ⟨d, .assign x,ty,pos,af,gd⟩ v:=fun a w hf _=>by
 rw [← hf.ev hx];rfl
inductive Ig:List Value→Nat→Value→Prop
 | here {v:Value} {r:List Value}:Ig (v::r) 0 v
 | skip {x v:Value} {r:List Value} {n:Nat}:Ig r n v→Ig (x::r) (n+1) v
theorem Ig.spec {l:List Value} {n:Nat} {v:Value} (h:Ig l n v):l[n]? =some v:=by
 induction h with
 | here=>rfl
 | skip _ ih=>simpa using ih
theorem R.ex {x:Operand} {l:List Value} {n:Nat} {v:Value} (hx:EV e x (.tuple l.toArray)) (hl:Ig l n v):gP P N C e hs I ⟨d, .extract x n,ty,pos,af,gd⟩ v:=fun a w hf _=>by
 have:=hl.spec
 simp [execOp,hf.ev hx,Instr.extract,this]
theorem R.nc {x:Operand} {p:Addr} (hx:EV e x (.pointer (some p))):gP P N C e hs I ⟨d, .nilCheck x,ty,pos,af,gd⟩ (.pointer (some p)):=fun a w hf _=>by
 simp [execOp,hf.ev hx]
theorem R.ZK {x:Operand} {g:Nat} {as bs:Array Value} (hx:EV e x (.func (.func g) as bs)):gP P N C e hs I ⟨d, .nilCheck x,ty,pos,af,gd⟩ (.func (.func g) as bs):=fun a w hf _=>by
 simp [execOp,hf.ev hx]
theorem R.Z4 {g:Nat} {xs ys:Array Operand} {us vs:List Value} (hx:OW e xs.toList us) (hy:OW e ys.toList vs):gP P N C e hs I ⟨d, .makeFunc (.func g) xs ys,ty,pos,af,gd⟩ (.func (.func g) us.toArray vs.toArray):=fun a w hf _=>by
 have h1:=hf.TV hx
 have h2:=hf.TV hy
 have h1:xs.map a.eval=us.toArray:=Array.toList_inj.1 (by simpa using h1)
 have h2:ys.map a.eval=vs.toArray:=Array.toList_inj.1 (by simpa using h2)
 simp [execOp,Instr.makeFunc,h1,h2]
theorem R.Zo {c x y:Operand} {v:Value} (hc:EV e c (.bool true)) (hx:EV e x v):gP P N C e hs I ⟨d, .pick c x y,ty,pos,af,gd⟩ v:=fun a w hf _=>by
 simp [execOp,hf.ev hc,hf.ev hx,asBool]
theorem R.ZB {c x y:Operand} {v:Value} (hc:EV e c (.bool false)) (hy:EV e y v):gP P N C e hs I ⟨d, .pick c x y,ty,pos,af,gd⟩ v:=fun a w hf _=>by
 simp [execOp,hf.ev hc,hf.ev hy,asBool]
section ints
variable {x y:Operand} {k:IntKind} {m n r:Int} {tx tyy:TypeId}
theorem R.add (hx:EV e x (.int k m)) (hy:EV e y (.int k n)) (h:k.wrap (m+n)=r):gP P N C e hs I ⟨d, .binOp .add tx x y tyy,ty,pos,af,gd⟩ (.int k r):=fun a w hf _=>by
 simp [execOp,eqGuard,binOp,Op.intArith,hf.ev hx,hf.ev hy,h]
theorem R.sub (hx:EV e x (.int k m)) (hy:EV e y (.int k n)) (h:k.wrap (m - n)=r):gP P N C e hs I ⟨d, .binOp .sub tx x y tyy,ty,pos,af,gd⟩ (.int k r):=fun a w hf _=>by
 simp [execOp,eqGuard,binOp,Op.intArith,hf.ev hx,hf.ev hy,h]
theorem R.mul (hx:EV e x (.int k m)) (hy:EV e y (.int k n)) (h:k.wrap (m*n)=r):gP P N C e hs I ⟨d, .binOp .mul tx x y tyy,ty,pos,af,gd⟩ (.int k r):=fun a w hf _=>by
 simp [execOp,eqGuard,binOp,Op.intArith,hf.ev hx,hf.ev hy,h]
theorem R.quo (hx:EV e x (.int k m)) (hy:EV e y (.int k n)) (h0:n≠0) (h:k.wrap (m.tdiv n)=r):gP P N C e hs I ⟨d, .binOp .quo tx x y tyy,ty,pos,af,gd⟩ (.int k r):=fun a w hf _=>by
 simp [execOp,eqGuard,binOp,Op.intDiv,hf.ev hx,hf.ev hy,h,h0]
theorem R.rem (hx:EV e x (.int k m)) (hy:EV e y (.int k n)) (h0:n≠0) (h:m.tmod n=r):gP P N C e hs I ⟨d, .binOp .rem tx x y tyy,ty,pos,af,gd⟩ (.int k r):=fun a w hf _=>by
 simp [execOp,eqGuard,binOp,Op.intDiv,hf.ev hx,hf.ev hy,h,h0]
theorem R.lss (hx:EV e x (.int k m)) (hy:EV e y (.int k n)):gP P N C e hs I ⟨d, .binOp .lss tx x y tyy,ty,pos,af,gd⟩ (.bool (decide (m<n))):=fun a w hf _=>by
 simp [execOp,eqGuard,binOp,Op.intCmp,hf.ev hx,hf.ev hy]
theorem R.leq (hx:EV e x (.int k m)) (hy:EV e y (.int k n)):gP P N C e hs I ⟨d, .binOp .leq tx x y tyy,ty,pos,af,gd⟩ (.bool (decide (m≤n))):=fun a w hf _=>by
 simp [execOp,eqGuard,binOp,Op.intCmp,hf.ev hx,hf.ev hy]
theorem R.gtr (hx:EV e x (.int k m)) (hy:EV e y (.int k n)):gP P N C e hs I ⟨d, .binOp .gtr tx x y tyy,ty,pos,af,gd⟩ (.bool (decide (n<m))):=fun a w hf _=>by
 simp [execOp,eqGuard,binOp,Op.intCmp,hf.ev hx,hf.ev hy]
theorem R.geq (hx:EV e x (.int k m)) (hy:EV e y (.int k n)):gP P N C e hs I ⟨d, .binOp .geq tx x y tyy,ty,pos,af,gd⟩ (.bool (decide (n≤m))):=fun a w hf _=>by
 simp [execOp,eqGuard,binOp,Op.intCmp,hf.ev hx,hf.ev hy]
theorem R.ZF (hx:EV e x (.int k m)) (hy:EV e y (.int k n)):gP P N C e hs I ⟨d, .binOp .eql tx x y tyy,ty,pos,af,gd⟩ (.bool (decide (m=n))):=fun a w hf _=>by
 have hb:(m ==n)=decide (m=n):=by by_cases h:m=n<;>simp [h]
 simp [execOp,eqGuard,binOp,Op.intCmp,hf.ev hx,hf.ev hy,hb]
theorem R.ZW (hx:EV e x (.int k m)) (hy:EV e y (.int k n)):gP P N C e hs I ⟨d, .binOp .neq tx x y tyy,ty,pos,af,gd⟩ (.bool (decide (m≠n))):=fun a w hf _=>by
 have hb:(m !=n)=decide (m≠n):=by by_cases h:m=n<;>simp [h]
 simp [execOp,eqGuard,binOp,Op.intCmp,hf.ev hx,hf.ev hy,hb]
theorem R.bits {op:BinOp} (hop:op= .and∨op= .or∨op= .xor∨op= .andNot) (hx:EV e x (.int k m)) (hy:EV e y (.int k n)) (h:Op.intBits op k m n=pure (.int k r)):
  gP P N C e hs I ⟨d, .binOp op tx x y tyy,ty,pos,af,gd⟩ (.int k r):=fun a w hf _=>by
 rcases hop with rfl | rfl | rfl | rfl<;>simp [execOp,eqGuard,binOp,hf.ev hx,hf.ev hy,h]
theorem R.shl {k2:IntKind} (hx:EV e x (.int k m)) (hy:EV e y (.int k2 n)) (h0:0≤n) (h:k.wrap (m*2^(min n.toNat k.bits))=r):gP P N C e hs I ⟨d, .binOp .shl tx x y tyy,ty,pos,af,gd⟩ (.int k r):=fun a w hf _=>by
 have: ¬ n<0:=by omega
 simp [execOp,eqGuard,binOp,Op.shift,hf.ev hx,hf.ev hy,this,h]
theorem R.shr {k2:IntKind} (hx:EV e x (.int k m)) (hy:EV e y (.int k2 n)) (h0:0≤n) (h:m.fdiv (2^(min n.toNat k.bits))=r):gP P N C e hs I ⟨d, .binOp .shr tx x y tyy,ty,pos,af,gd⟩ (.int k r):=fun a w hf _=>by
 have: ¬ n<0:=by omega
 simp [execOp,eqGuard,binOp,Op.shift,hf.ev hx,hf.ev hy,this,h]
theorem R.neg (hx:EV e x (.int k m)) (h:k.wrap (0 - m)=r):gP P N C e hs I ⟨d, .unOp .neg tx x,ty,pos,af,gd⟩ (.int k r):=fun a w hf _=>by
 have h':k.wrap (-m)=r:=by rw [← h];simp
 simp [execOp,Op.unary,Op.intArith,hf.ev hx,h']
def yG (P:Program) (t:TypeId) (k:IntKind):Bool:=match P.underlying t with | some (.int k')=>decide (k=k') | _=>false
theorem R.ZN {k2:IntKind} {src dst:TypeId} {ds:TypeDesc} (hs1:P.underlying src=some ds) (ht:yG P dst k2=true) (hx:EV e x (.int k m)) (h:k2.wrap m=r):gP P N C e hs I ⟨d, .convert src dst x,ty,pos,af,gd⟩ (.int k2 r):=fun a w hf _=>by
 unfold yG at ht
 split at ht
 ·rename_i k' hk
  have:k2=k':=by simpa using ht
  subst this
  simp [execOp,convert,run_underlying hk,run_underlying hs1,Conv.intToInt,hf.ev hx,h]
 ·cases ht
theorem R.not {p:Prop} [Decidable p] (hx:EV e x (.bool (decide p))):gP P N C e hs I ⟨d, .unOp .not tx x,ty,pos,af,gd⟩ (.bool (decide (¬ p))):=fun a w hf _=>by
 simp [execOp,Op.unary,hf.ev hx]
theorem R.XV {b:Bool} (hx:EV e x (.bool b)):gP P N C e hs I ⟨d, .unOp .not tx x,ty,pos,af,gd⟩ (.bool (!b)):=fun a w hf _=>by
 simp [execOp,Op.unary,hf.ev hx]
theorem R.YG {tt:Array TypeId} (hx:EV e x (.int k m)) (hy:EV e y (.int k n)) (h:(if n>m then n else m)=r):gP P N C e hs I ⟨d, .call ⟨.builtin .max, #[x,y],tt⟩,ty,pos,af,gd⟩ (.int k r):=fun a w hf _=>by
 simp only [gt_iff_lt] at h
 simp [execOp,resolve,invoke,builtin,Builtin.max_,Builtin.max2,hf.ev hx,hf.ev hy,h]
theorem R.X3 {tt:Array TypeId} (hx:EV e x (.int k m)) (hy:EV e y (.int k n)) (h:(if n<m then n else m)=r):gP P N C e hs I ⟨d, .call ⟨.builtin .min, #[x,y],tt⟩,ty,pos,af,gd⟩ (.int k r):=fun a w hf _=>by
 simp [execOp,resolve,invoke,builtin,Builtin.min_,Builtin.min2,hf.ev hx,hf.ev hy,h]
end ints
end
end Go.iM
/-
  The engine's operations on memory and strings.
-/
namespace Go.iM
open Go Go.RowKit
@[reducible] def str (l:List UInt8):Value:= .string ⟨l.toArray⟩
theorem nN (l:List UInt8):(ByteArray.mk l.toArray).size=l.length:=by simp [ByteArray.size]
def QP (A:Option Addr) (j:Nat):Value:= .pointer (A.map (·.add j))
def EM (w:World) (A:Option Addr) (j:Nat) (v:Value):Prop:= ∃ ad,A=some ad∧w.cell? (ad.add j)=some v
def Rd (w:World) (A:Option Addr) (size n:Nat) (xs:List Value):Prop:=
 xs.length=n*size∧(0<xs.length→ ∃ ad,A=some ad∧ ∀ j u,xs[j]? =some u→w.cell? (ad.add j)=some u)
theorem add_add' (a:Addr) (i j:Nat):(a.add i).add j=a.add (i+j):=by
 unfold Addr.add
 by_cases hi:i=0<;>by_cases hj:j=0<;>simp [hi,hj,Nat.add_assoc]
theorem Rd.cell {w:World} {A:Option Addr} {size n:Nat} {xs:List Value} (h:Rd w A size n xs) {j:Nat} {v:Value} (hj:xs[j]? =some v):EM w A j v:=by
 have hlt:j<xs.length:=(List.getElem?_eq_some_iff.1 hj).1
 obtain ⟨ad,h1,h2⟩:=h.2 (by omega)
 exact ⟨ad,h1,h2 j v hj⟩
theorem Rd.nil {w:World} {A:Option Addr} {size:Nat}:Rd w A size 0 []:=⟨by simp,fun h=>by simp at h⟩
def BK (A:Option Addr) (c k size:Nat):Option Addr:=if c=k then A else A.map (·.add (k*size))
theorem Rd.cut {w:World} {A:Option Addr} {size n c k m:Nat} {xs ys:List Value} (h:Rd w A size n xs) (hc:n≤c) (hk:k+m≤n) (hy:ys=(xs.drop (k*size)).take (m*size)):Rd w (BK A c k size) size m ys:=by
 subst hy
 have hl:((xs.drop (k*size)).take (m*size)).length=m*size:=by
  rw [List.length_take,List.length_drop,h.1]
  have:k*size+m*size≤n*size:=by rw [← Nat.add_mul];exact Nat.mul_le_mul_right _ hk
  omega
 refine ⟨hl,fun h0=>?_⟩
 have hm:0<m∧0<size:=by
  rw [hl] at h0
  exact ⟨Nat.pos_of_mul_pos_right h0 |>fun _=>Nat.pos_of_ne_zero fun e=>by simp [e] at h0,Nat.pos_of_ne_zero fun e=>by simp [e] at h0⟩
 obtain ⟨ad,rfl,hcell⟩:=h.2 (by rw [h.1];exact Nat.mul_pos (by omega) hm.2)
 refine ⟨ad.add (k*size),by unfold BK;rw [if_neg (by omega)];rfl,fun j u hu=>?_⟩
 rw [add_add']
 refine hcell _ u ?_
 rw [List.getElem?_take] at hu
 split at hu
 ·rwa [List.getElem?_drop] at hu
 ·cases hu
theorem Rd.Al {w:World} {A:Option Addr} {c t size n:Nat} {xs:List Value} (h:w.ownsRow 0 t size (.slice A n c) n xs):Rd w A size n xs:=by
 refine ⟨h.1,fun hn=>?_⟩
 rcases h.2 with ⟨h2,rfl⟩ | ⟨g,cap,cur,hv,_⟩
 ·have:=h.1;simp at this;simp [this] at hn
 ·have hA:A=some ⟨g,0,none⟩:=by injection hv
  subst hA
  exact ⟨_,rfl,h.cells (g:=g) rfl⟩
section
variable {P:Program} {N:Nat} {C:Cx} {Q:Exit→Act→World→Prop} {e e':Env} {hs hs':List Chunk} {I J:World→Prop}
variable {d:Option Tmp} {ty:TypeId} {pos:String} {af:Array Edge} {gd:Option (Nat×Bool)}
theorem Hb.has {w:World} {c:Chunk} (h:Hb C w hs I) (hc:Has hs c):c.holds w:=h.hp.hold c hc
theorem rT {w:World} {g t:Nat} {l:List Value} (h:(blk g t l).holds w) {j:Nat} {v:Value} (hj:l[j]? =some v):w.cell? ⟨g,j,none⟩=some v:=by
 have h1:w.heap[g]? =some (.cells l.toArray t (0,0)):=h
 simpa [World.cell?,h1] using hj
section
variable {x y:Operand} {tx tyy:TypeId} {l m:List UInt8}
theorem R.eqs (hx:EV e x (str l)) (hy:EV e y (str m)):gP P N C e hs I ⟨d, .binOp .eql tx x y tyy,ty,pos,af,gd⟩ (.bool (decide (l=m))):=fun a w hf _=>by
 have hb:(l ==m)=decide (l=m):=by by_cases h:l=m<;>simp [h]
 simp [execOp,eqGuard,binOp,Op.stringOp,hf.ev hx,hf.ev hy,hb]
theorem R.ZO (hx:EV e x (str l)) (hy:EV e y (str m)):gP P N C e hs I ⟨d, .binOp .neq tx x y tyy,ty,pos,af,gd⟩ (.bool (decide (l≠m))):=fun a w hf _=>by
 have hb:(l ==m)=decide (l=m):=by by_cases h:l=m<;>simp [h]
 simp [execOp,eqGuard,binOp,Op.stringOp,hf.ev hx,hf.ev hy,hb]
theorem R.cat (hx:EV e x (str l)) (hy:EV e y (str m)) (h:l.length+m.length≤9223372036854775807):gP P N C e hs I ⟨d, .binOp .add tx x y tyy,ty,pos,af,gd⟩ (str (l++m)):=fun a w hf _=>by
 have h1: ¬ ((ByteArray.mk l.toArray).size:Int)+((ByteArray.mk m.toArray).size:Int)>IntKind.i64.max:=by
  rw [nN,nN]
  have:IntKind.i64.max=9223372036854775807:=by decide
  omega
 have h2:ByteArray.mk l.toArray++ByteArray.mk m.toArray=ByteArray.mk (l++m).toArray:=by
  apply ByteArray.ext
  simp
 simp only [execOp,eqGuard,binOp,hf.ev hx,hf.ev hy,Op.stringOp,Sem.run_bind,Sem.run_pure,Int.natCast_add]
 rw [if_neg h1,h2]
 rfl
def IK (P:Program) (t:TypeId):Bool:=match P.underlying t with | some .string=>true | _=>false
theorem jP {t:TypeId} (h:IK P t=true):P.underlying t=some .string:=by
 unfold IK at h
 split at h
 ·assumption
 ·cases h
theorem R.lens {t:TypeId} (ht:IK P t=true) (hx:EV e x (str l)):gP P N C e hs I ⟨d, .call ⟨.builtin .len, #[x], #[t]⟩,ty,pos,af,gd⟩ (.int .i64 l.length):=fun a w hf _=>by
 simp [execOp,resolve,invoke,builtin,Builtin.len_,run_underlying (jP ht),hf.ev hx,goInt,nN]
theorem R.Sj {t el s:TypeId} {A:Option Addr} {n c:Nat} (ht:QT P t el s=true) (hx:EV e x (.slice A n c)):gP P N C e hs I ⟨d, .call ⟨.builtin .len, #[x], #[t]⟩,ty,pos,af,gd⟩ (.int .i64 n):=fun a w hf _=>by
 simp [execOp,resolve,invoke,builtin,Builtin.len_,run_underlying (dM ht).1,hf.ev hx,goInt]
theorem R.ZE {k:IntKind} {i:Int} {j:Nat} {b:UInt8} (ht:IK P tx=true) (hx:EV e x (str l)) (hy:EV e y (.int k i)) (hij:i=(j:Int)) (hb:l[j]? =some b):
  gP P N C e hs I ⟨d, .index tx x y,ty,pos,af,gd⟩ (.int .u8 (b.toNat:Int)):=fun a w hf _=>by
 subst hij
 have hlt:=(List.getElem?_eq_some_iff.1 hb).1
 have h1:(ByteArray.mk l.toArray)[j]? =some b:=by
  have h2:j<(ByteArray.mk l.toArray).size:=by rw [nN];exact hlt
  rw [getElem?_pos (ByteArray.mk l.toArray) j h2]
  have:=(List.getElem?_eq_some_iff.1 hb).2
  simp [← this]
  rfl
 simp [execOp,Instr.index,asIntOf,run_underlying (jP ht),hf.ev hx,hf.ev hy,h1]
end
inductive NN (e:Env) (dflt:Nat):Option Operand→Nat→Prop
 | no:NN e dflt none dflt
 | yes {o:Operand} {k:IntKind} {m:Int} {n:Nat}:EV e o (.int k m)→m=(n:Int)→NN e dflt (some o) n
theorem ql {n top:Nat} {k:IntKind} (hn:n≤top) (code:BoundsCode) (w:World):(Instr.sliceBound (.int k (n:Int)) top code).run P w= .ok n w:=by
 have h1:(n:Int)≤(top:Int):=by omega
 simp [Instr.sliceBound,asIntOf,h1]
theorem yj {is:Bool} {len cap a b:Nat} {lo hi:Option Operand} {A:Act} (hlo:NN e 0 lo a) (hhi:NN e len hi b) (hf:Fr A N e) (hab:a≤b) (hb:b≤cap) (w:World):
  (Instr.sliceBounds is len cap (lo.map A.eval) (hi.map A.eval) none).run P w= .ok (a,b,cap) w:=by
 unfold Instr.sliceBounds
 cases hhi with
 | no=>
  cases hlo with
  | no=>simp
  | yes h1 h2=>subst h2;simp [hf.ev h1,ql hab]
 | yes h3 h4=>
  subst h4
  cases hlo with
  | no=>simp [hf.ev h3,ql hb]
  | yes h1 h2=>subst h2;simp [hf.ev h1,hf.ev h3,ql hb,ql hab]
theorem R.ZL {tx:TypeId} {x:Operand} {l r:List UInt8} {lo hi:Option Operand} {a b:Nat} (ht:IK P tx=true) (hx:EV e x (str l)) (hlo:NN e 0 lo a) (hhi:NN e l.length hi b) (hab:a≤b) (hb:b≤l.length)
  (hr:(l.drop a).take (b - a)=r):gP P N C e hs I ⟨d, .slice tx x lo hi none,ty,pos,af,gd⟩ (str r):=fun A w hf _=>by
 subst hr
 have h1:=yj (P:=P) (is:=false) (cap:=l.length) hlo hhi hf hab hb w
 have h2:ByteArray.extract ⟨l.toArray⟩ a b=⟨((l.drop a).take (b - a)).toArray⟩:=by
  apply ByteArray.ext
  rw [ByteArray.data_extract]
  apply Array.ext'
  simp
 have hu:=jP ht
 simp [execOp,Instr.sliceAt,Instr.slice,run_underlying hu,hf.ev hx,nN,h1,h2]
theorem R.X6 {tx el s:TypeId} {x:Operand} {Ad:Option Addr} {n c:Nat} {lo hi:Option Operand} {a b:Nat} (ht:QT P tx el s=true) (hx:EV e x (.slice Ad n c)) (hlo:NN e 0 lo a) (hhi:NN e n hi b) (hab:a≤b) (hb:b≤c):
  gP P N C e hs I ⟨d, .slice tx x lo hi none,ty,pos,af,gd⟩ (.slice (BK Ad c a s) (b - a) (c - a)):=fun A w hf _=>by
 have h1:=yj (P:=P) (is:=true) (cap:=c) hlo hhi hf hab hb w
 have hu:=(dM ht).1
 simp [execOp,Instr.sliceAt,Instr.slice,run_underlying hu,hf.ev hx,h1,bG (dM ht).2,BK]
theorem R.ZJ {tx el len s g o:Nat} {x:Operand} {hi:Option Operand} {b:Nat} (hu:P.underlying tx=some (.array len el)) (hsz:Bw P el s=true) (hx:EV e x (.pointer (some ⟨g,o,none⟩))) (hhi:NN e len hi b) (hb:b≤len):
  gP P N C e hs I ⟨d, .slice tx x none hi none,ty,pos,af,gd⟩ (.slice (some ⟨g,o,none⟩) b len):=fun A w hf _=>by
 have h1:=yj (P:=P) (is:=false) (cap:=len) (.no:NN e 0 none 0) hhi hf (Nat.zero_le b) hb w
 simp only [Option.map_none] at h1
 have h0:(⟨g,o,none⟩:Addr).add 0=⟨g,o,none⟩:=by unfold Addr.add;split<;>simp_all
 simp [execOp,Instr.sliceAt,Instr.sureAddr,run_underlying hu,hf.ev hx,h1,bG hsz,h0]
theorem R.ZR {tx el s:TypeId} {x h m:Operand} {Ad:Option Addr} {n c:Nat} {k1 k2:IntKind} {i1 i2:Int} (ht:QT P tx el s=true) (hx:EV e x (.slice Ad n c)) (hn:n≤c) (hh:EV e h (.int k1 i1)) (hm:EV e m (.int k2 i2)) (e1:i1=(n:Int)) (e2:i2=(n:Int)):
  gP P N C e hs I ⟨d, .slice tx x none (some h) (some m),ty,pos,af,gd⟩ (.slice (BK Ad n 0 s) n n):=fun A w hf _=>by
 subst e1 e2
 have h1:(Instr.sliceBounds true n c none (some (A.eval h)) (some (A.eval m))).run P w= .ok (0,n,n) w:=by
  unfold Instr.sliceBounds
  simp [hf.ev hh,hf.ev hm,ql hn,ql (Nat.le_refl n)]
 have hu:=(dM ht).1
 simp [execOp,Instr.sliceAt,Instr.slice,run_underlying hu,hf.ev hx,h1,bG (dM ht).2,BK]
theorem R.Ye {tx el s:TypeId} {x y:Operand} {Ad:Option Addr} {n c j:Nat} {k:IntKind} {i:Int} (ht:QT P tx el s=true) (hx:EV e x (.slice Ad n c)) (hy:EV e y (.int k i)) (hij:i=(j:Int)) (hj:j<n)
  (hA: ∀ w,Hb C w hs I→Ad≠none):gP P N C e hs I ⟨d, .indexAddr tx x y,ty,pos,af,gd⟩ (QP Ad (j*s)):=fun A w hf hb=>by
 subst hij
 have hu:=(dM ht).1
 cases Ad with
 | none=>exact absurd rfl (hA w hb)
 | some ad=>simp [execOp,Instr.indexAt,asIntOf,run_underlying hu,hf.ev hx,hf.ev hy,hj,bG (dM ht).2,QP]
theorem Rd.ne {w:World} {A:Option Addr} {size n:Nat} {xs:List Value} (h:Rd w A size n xs) (hn:0<xs.length):A≠none:=by
 obtain ⟨ad,rfl,_⟩:=h.2 hn
 simp
theorem sG {s f o:Nat} (h:Lt P s f o=true) (a:Addr) (w:World):(Instr.fieldAt s (.pointer (some a)) f).run P w= .ok (.pointer (some (a.add o))) w:=by
 obtain ⟨fs,x,i,h1,h2,h3,h4,h5⟩:=zt h
 simp [Instr.fieldAt,run_underlying h1,h2,Instr.sureAddr,fieldPlace,sizeOf,typeInfo,h3,h4,h5]
theorem R.Zx {tx el len s g j m:Nat} {x y:Operand} {k:IntKind} {i:Int} (hu:P.underlying tx=some (.array len el)) (hsz:Bw P el s=true) (hx:EV e x (.pointer (some ⟨g,j,none⟩))) (hy:EV e y (.int k i)) (him:i=(m:Int)) (hm:m<len):gP P N C e hs I ⟨d, .indexAddr tx x y,ty,pos,af,gd⟩ (.pointer (some ⟨g,j+m*s,none⟩)):=fun A w hf _=>by
 subst him
 have:(⟨g,j,none⟩:Addr).add (m*s)=⟨g,j+m*s,none⟩:=by unfold Addr.add;split<;>simp_all
 simp [execOp,Instr.indexAt,Instr.sureAddr,asIntOf,run_underlying hu,hf.ev hx,hf.ev hy,hm,bG hsz,this]
theorem R.ZI {tx el len s m:Nat} {ad:Addr} {x y:Operand} {k:IntKind} {i:Int} (hu:P.underlying tx=some (.array len el)) (hsz:Bw P el s=true) (hx:EV e x (.pointer (some ad))) (hy:EV e y (.int k i)) (him:i=(m:Int)) (hm:m<len):gP P N C e hs I ⟨d, .indexAddr tx x y,ty,pos,af,gd⟩ (.pointer (some (ad.add (m*s+0)))):=fun A w hf hb=>by
 subst him
 simp [execOp,Instr.indexAt,Instr.sureAddr,asIntOf,run_underlying hu,hf.ev hx,hf.ev hy,hm,bG hsz]
theorem R.Zv {s f o g j k:Nat} {x:Operand} (ht:Lt P s f o=true) (hx:EV e x (.pointer (some ⟨g,j,none⟩))) (hk:j+o=k):gP P N C e hs I ⟨d, .fieldAddr s x f,ty,pos,af,gd⟩ (.pointer (some ⟨g,k,none⟩)):=fun A w hf _=>by
 subst hk
 have:(⟨g,j,none⟩:Addr).add o=⟨g,j+o,none⟩:=by unfold Addr.add;split<;>simp_all
 simp [execOp,hf.ev hx,sG ht,this]
theorem R.fap {s f o j:Nat} {x:Operand} {Ad:Option Addr} (ht:Lt P s f o=true) (hx:EV e x (QP Ad j)) (hA: ∀ w,Hb C w hs I→Ad≠none):gP P N C e hs I ⟨d, .fieldAddr s x f,ty,pos,af,gd⟩ (QP Ad (j+o)):=fun A w hf hb=>by
 cases Ad with
 | none=>exact absurd rfl (hA w hb)
 | some ad=>
  have h1:A.eval x= .pointer (some (ad.add j)):=hf.ev hx
  simp [execOp,h1,sG ht,QP,add_add']
theorem lL {t:TypeId} {a:Addr} {v:Value} {w:World} (ht:Ej P t=true) (hc:w.cell? a=some v):(loadVar t a).run P w= .ok v w:=by
 simp [loadVar,D9 ht,hc]
theorem kV {a:Addr} {w:World}: ∀ (vs:List Value) (i:Nat) (acc:Array Value),(∀ j v,vs[j]? =some v→w.cell? (a.add (i+j))=some v)→
  (loadCellsFrom a i vs.length acc).run P w= .ok (acc++vs.toArray) w
 | [],_,acc,_=>by simp [loadCellsFrom]
 | v::r,i,acc,h=>by
  have h0:=h 0 v rfl
  have ih:=kV r (i+1) (acc.push v) (fun j u hj=>by
   have:=h (j+1) u (by simpa using hj)
   rwa [show i+(j+1)=i+1+j by omega] at this)
  simp only [Nat.add_zero] at h0
  simp only [List.length_cons,loadCellsFrom,Sem.run_bind,run_load,h0,Result.andThen_ok,ih]
  simp
theorem qW {t:TypeId} {a:Addr} {vs:List Value} {w:World} (ht:NK P t vs.length=true) (hc: ∀ j v,vs[j]? =some v→w.cell? (a.add j)=some v):(loadVar t a).run P w= .ok (.agg vs.toArray) w:=by
 obtain ⟨h1,i,hi,hs⟩:=zw ht
 have:=kV (P:=P) (a:=a) (w:=w) vs 0 #[] (fun j v hj=>by simpa using hc j v hj)
 simp [loadVar,h1,sizeOf,typeInfo,hi,hs,loadCells,this]
theorem R.ld {t g tb o:Nat} {x:Operand} {l:List Value} {v:Value} (ht:Ej P t=true) (hx:EV e x (.pointer (some ⟨g,o,none⟩))) (hc:Has hs (blk g tb l)) (hl:l[o]? =some v):
  gP P N C e hs I ⟨d, .load t x,ty,pos,af,gd⟩ v:=fun A w hf hb=>by
 have h1:=rT (hb.has hc) hl
 simp [execOp,hf.ev hx,Instr.loadAt,Instr.sureAddr,lL ht h1]
theorem R.XC {t g tb o n:Nat} {x:Operand} {l vs:List Value} (ht:NK P t n=true) (hx:EV e x (.pointer (some ⟨g,o,none⟩))) (hc:Has hs (blk g tb l)) (hl:C9 l o n vs):
  gP P N C e hs I ⟨d, .load t x,ty,pos,af,gd⟩ (.agg vs.toArray):=fun A w hf hb=>by
 have h1:=hl.spec
 have h2:=hb.has hc
 have h3:(loadVar t ⟨g,o,none⟩).run P w= .ok (.agg vs.toArray) w:=qW (by rw [h1.1];exact ht) fun j v hj=>by
  have h4:=rT h2 (h1.2 j v hj)
  unfold Addr.add
  split
  ·rename_i h5;subst h5;simpa using h4
  ·exact h4
 simp [execOp,hf.ev hx,Instr.loadAt,Instr.sureAddr,h3]
theorem R.Yz {t j:Nat} {x:Operand} {Ad:Option Addr} {v:Value} (ht:Ej P t=true) (hx:EV e x (QP Ad j)) (hc: ∀ w,Hb C w hs I→EM w Ad j v):gP P N C e hs I ⟨d, .load t x,ty,pos,af,gd⟩ v:=fun A w hf hb=>by
 obtain ⟨ad,rfl,h1⟩:=hc w hb
 have h2:A.eval x= .pointer (some (ad.add j)):=hf.ev hx
 simp [execOp,h2,Instr.loadAt,Instr.sureAddr,lL ht h1]
theorem R.Rh {t j n:Nat} {x:Operand} {Ad:Option Addr} {vs:List Value} (ht:NK P t n=true) (hn:vs.length=n) (hx:EV e x (QP Ad j)) (hA: ∀ w,Hb C w hs I→Ad≠none) (hc: ∀ w,Hb C w hs I→ ∀ i v,vs[i]? =some v→EM w Ad (j+i) v):
  gP P N C e hs I ⟨d, .load t x,ty,pos,af,gd⟩ (.agg vs.toArray):=fun A w hf hb=>by
 cases Ad with
 | none=>exact absurd rfl (hA w hb)
 | some ad=>
  have h2:A.eval x= .pointer (some (ad.add j)):=hf.ev hx
  have h3:(loadVar t (ad.add j)).run P w= .ok (.agg vs.toArray) w:=qW (by rw [hn];exact ht) fun i v hi=>by
   obtain ⟨ad',h4,h5⟩:=hc w hb i v hi
   injection h4 with h4
   subst h4
   rw [add_add']
   exact h5
  simp [execOp,h2,Instr.loadAt,Instr.sureAddr,h3]
theorem R.Zz {t:Nat} {x:Operand} {a:Addr} {v:Value} (ht:Ej P t=true) (hx:EV e x (.pointer (some a))) (hc: ∀ w,Hb C w hs I→w.cell? a=some v):gP P N C e hs I ⟨d, .load t x,ty,pos,af,gd⟩ v:=fun A w hf hb=>by
 simp [execOp,hf.ev hx,Instr.loadAt,Instr.sureAddr,lL ht (hc w hb)]
theorem R.mi {t:TypeId} {x:Operand} {v:Value} {ds:TypeDesc} (ht:P.underlying t=some ds) (hni: ∀ m,ds≠ .interface m) (hx:EV e x v):gP P N C e hs I ⟨d, .makeInterface t x,ty,pos,af,gd⟩ (.iface t v):=fun A w hf _=>by
 have h1:=hf.ev hx
 cases ds<;>first | (exact absurd rfl (hni _)) | simp [execOp,Instr.makeInterface,run_underlying ht,h1]
inductive Fill (P:Program) (s:Nat):List Value→List (Nat×Value)→List Value→Prop
 | nil {z:List Value}:Fill P s z [] z
 | cons {z z1 z2:List Value} {f o:Nat} {v:Value} {vs:List Value} {r:List (Nat×Value)}:Lt P s f o=true→v.cells=vs.toArray→Ee z o vs z1→Fill P s z1 r z2→Fill P s z ((f,v)::r) z2
end
end Go.iM
/-
  Types, their plain values, and how memory holds them.
-/
namespace Go.Lf
open Go Go.iM Go.RowKit
inductive Ec where
 | v (x:Value)
 | e
mutual
inductive Er where
 | nil
 | nd (t:Nat) (bx:Bool) (cs:List Ec) (k:Tl)
inductive Tl where
 | no
 | one (e:Er)
 | many (l:List Er)
end
def Er.isNil:Er→Bool
 | .nil=>true
 | _=>false
inductive Ty where
 | tr                            -- an error:any tree
 | int (k:IntKind) | bool | str | unit
 | it                            -- what goes through a string:the string,and where
 | xX                           -- the same,once its right is taken
 | dead (el:Nat) (t:Ty)      -- a place from which a slice of the kind 'mr' was taken
 | sl (t:Ty)                   -- a slice
 | rw (el:Nat) (t:Ty)        -- a slice with the right to append
 | mr (el:Nat) (t:Ty)        -- a slice that nobody else sees
 | ptr (t:Ty)                  -- a pointer to what no more turns
 | eb (te:Nat) (t:Ty)        -- an interface value:nil,or a pointer of one type to what no more turns
 | on (t:Ty)                   -- a slice:nil,or not empty
 | fl (t:Ty)                  -- a slice without room behind it
 | op (t:Ty)                   -- a pointer:nil,or to what no more turns
 | bx (id:Nat) (t:Ty)        -- a pointer to a block of its own
 | bo (id:Nat) (t:Ty)        -- nil,or a pointer to a block of its own
 | bn                            -- a pointer:nil,or not
 | ml (el:Nat) (a t:Ty)      -- a slice that nobody else sees;its last element may own,the others are of the type 'a'
 | st (t:Ty) | pr (a b:Ty)
 deriving DecidableEq
@[reducible] def Ty.den:Ty→Type
 | .tr=>Er
 | .int _=>Int
 | .bool=>Bool
 | .str=>List UInt8
 | .unit=>Unit
 | .it=>List UInt8×Int
 | .xX=>Unit
 | .dead _ _=>Unit
 | .sl t=>List t.den
 | .rw _ t=>List t.den
 | .mr _ t=>List t.den
 | .ptr t=>t.den
 | .eb _ t=>Option t.den
 | .on t=>List t.den
 | .fl t=>List t.den
 | .op t=>Option t.den
 | .bx _ t=>t.den
 | .bo _ t=>Option t.den
 | .bn=>Bool
 | .ml _ a t=>Option (List a.den×t.den)
 | .st t=>t.den
 | .pr a b=>a.den×b.den
abbrev Dn:=Sigma Ty.den
def Ty.size:Ty→Nat
 | .unit=>0
 | .st t=>t.size
 | .pr a b=>a.size+b.size
 | _=>1
def Ty.er:Ty→Ty
 | .it=> .xX
 | .bx _ _=> .xX
 | .bo _ _=> .bn
 | .ml _ a _=> .sl a
 | .dead _ t=> .sl t
 | .rw _ t=> .sl t
 | .mr _ t=> .sl t
 | .st t=> .st t.er
 | .pr a b=> .pr a.er b.er
 | t=>t
theorem Ty.aF (t:Ty):t.er.size=t.size:=by
 induction t<;>simp_all [Ty.er,Ty.size]
inductive bz {α β:Type} (R:α→β→Prop):List α→List β→Prop
 | nil:bz R [] []
 | cons {a:α} {b:β} {l:List α} {m:List β}:R a b→bz R l m→bz R (a::l) (b::m)
section
variable {α β:Type} {R R':α→β→Prop}
theorem bz.length {l:List α} {m:List β} (h:bz R l m):l.length=m.length:=by
 induction h with
 | nil=>rfl
 | cons _ _ ih=>simp [ih]
theorem bz.get {l:List α} {m:List β} (h:bz R l m) {i:Nat} {a:α} (ha:l[i]? =some a): ∃ b,m[i]? =some b∧R a b:=by
 induction h generalizing i with
 | nil=>simp at ha
 | cons h1 _ ih=>
  cases i with
  | zero=>simp only [List.getElem?_cons_zero,Option.some.injEq] at ha;subst ha;exact ⟨_,rfl,h1⟩
  | succ i=>exact ih (by simpa using ha)
theorem bz.imp {l:List α} {m:List β} (h:bz R l m) (hi: ∀ a b,R a b→R' a b):bz R' l m:=by
 induction h with
 | nil=>exact .nil
 | cons h1 _ ih=>exact .cons (hi _ _ h1) ih
theorem bz.append {l l':List α} {m m':List β} (h:bz R l m) (h':bz R l' m'):bz R (l++l') (m++m'):=by
 induction h with
 | nil=>exact h'
 | cons h1 _ ih=>exact .cons h1 ih
theorem bz.take {l:List α} {m:List β} (h:bz R l m) (n:Nat):bz R (l.take n) (m.take n):=by
 induction h generalizing n with
 | nil=>simp;exact .nil
 | cons h1 _ ih=>cases n with
  | zero=>simp;exact .nil
  | succ n=>simp;exact .cons h1 (ih n)
theorem bz.drop {l:List α} {m:List β} (h:bz R l m) (n:Nat):bz R (l.drop n) (m.drop n):=by
 induction h generalizing n with
 | nil=>simp;exact .nil
 | cons h1 h2 ih=>cases n with
  | zero=>simp;exact .cons h1 h2
  | succ n=>simp;exact ih n
theorem bz.set {l:List α} {m:List β} (h:bz R l m) (n:Nat) {a:α} {b:β} (hab:R a b):bz R (l.set n a) (m.set n b):=by
 induction h generalizing n with
 | nil=>simp;exact .nil
 | cons h1 h2 ih=>cases n with
  | zero=>simp;exact .cons hab h2
  | succ n=>simp;exact .cons h1 (ih n)
theorem bz.replicate {a:α} {b:β} (h:R a b) (n:Nat):bz R (List.replicate n a) (List.replicate n b):=by
 induction n with
 | zero=>exact .nil
 | succ n ih=>exact .cons h ih
theorem bz.one {a:α} {b:β} (h:R a b):bz R [a] [b]:= .cons h .nil
end
theorem fI {s:Nat}: ∀ (l:List (List Value)),(∀ c∈l,c.length=s)→l.flatten.length=l.length*s
 | [],_=>by simp
 | c::r,h=>by
  have h1:=h c List.mem_cons_self
  have h2:=fI r fun d hd=>h d (List.mem_cons_of_mem _ hd)
  simp only [List.flatten_cons,List.length_append,h1,h2,List.length_cons,Nat.succ_mul]
  omega
theorem flat_get {s:Nat}: ∀ (l:List (List Value)),(∀ c∈l,c.length=s)→ ∀ (i:Nat) (c:List Value),l[i]? =some c→ ∀ (j:Nat) (v:Value),c[j]? =some v→l.flatten[i*s+j]? =some v
 | [],_,i,c,hc=>by simp at hc
 | d::r,h,i,c,hc=>by
  intro j v hv
  have h1:=h d List.mem_cons_self
  cases i with
  | zero=>
   simp only [List.getElem?_cons_zero,Option.some.injEq] at hc
   subst hc
   have hj:=(List.getElem?_eq_some_iff.1 hv).1
   simp only [List.flatten_cons,Nat.zero_mul,Nat.zero_add]
   rw [List.getElem?_append_left hj]
   exact hv
  | succ i=>
   have ih:=flat_get r (fun e he=>h e (List.mem_cons_of_mem _ he)) i c (by simpa using hc) j v hv
   simp only [List.flatten_cons]
   rw [List.getElem?_append_right (by rw [h1,Nat.succ_mul];omega),h1,show (i+1)*s+j - s=i*s+j by rw [Nat.succ_mul];omega]
   exact ih
theorem tF {s:Nat}: ∀ (l:List (List Value)),(∀ c∈l,c.length=s)→ ∀ n,(l.take n).flatten=l.flatten.take (n*s)
 | [],_,n=>by simp
 | d::r,h,n=>by
  have h1:=h d List.mem_cons_self
  cases n with
  | zero=>simp
  | succ n=>
   have ih:=tF r (fun e he=>h e (List.mem_cons_of_mem _ he)) n
   simp only [List.take_succ_cons,List.flatten_cons,ih]
   rw [List.take_append,h1,Nat.succ_mul,show n*s+s - s=n*s by omega,List.take_of_length_le (l:=d) (by omega)]
theorem Au {s:Nat}: ∀ (l:List (List Value)),(∀ c∈l,c.length=s)→ ∀ n,(l.drop n).flatten=l.flatten.drop (n*s)
 | [],_,n=>by simp
 | d::r,h,n=>by
  have h1:=h d List.mem_cons_self
  cases n with
  | zero=>simp
  | succ n=>
   have ih:=Au r (fun e he=>h e (List.mem_cons_of_mem _ he)) n
   simp only [List.drop_succ_cons,List.flatten_cons,ih]
   rw [List.drop_append,h1,Nat.succ_mul,show n*s+s - s=n*s by omega,List.drop_eq_nil_of_le (as:=d) (by omega)]
   simp
theorem CX {s:Nat}: ∀ (l:List (List Value)),(∀ c∈l,c.length=s)→ ∀ (n:Nat) (c:List Value),n<l.length→c.length=s→(l.set n c).flatten=l.flatten.take (n*s)++c++l.flatten.drop (n*s+s)
 | [],_,n,c,hn=>by simp at hn
 | d::r,h,n,c,hn=>by
  intro hc
  have h1:=h d List.mem_cons_self
  cases n with
  | zero=>simp [h1]
  | succ n=>
   have ih:=CX r (fun e he=>h e (List.mem_cons_of_mem _ he)) n c (by simpa using hn) hc
   simp only [List.set_cons_succ,List.flatten_cons,ih]
   rw [List.take_append,List.drop_append,h1,Nat.succ_mul,show n*s+s - s=n*s by omega,show n*s+s+s - s=n*s+s by omega,List.take_of_length_le (l:=d) (by omega),List.drop_eq_nil_of_le (as:=d) (i:=n*s+s+s) (by omega)]
   simp
structure bL where
 c:Addr→Option Value
 b:Nat→Prop
instance:CoeFun bL (fun _=>Addr→Option Value):=⟨bL.c⟩
structure Agree (φ:bL) (w:World):Prop where
 cell: ∀ a v,φ a=some v→w.cell? a=some v
 blk: ∀ g,φ.b g→ ∃ cs t,w.heap[g]? =some (.cells cs t (0,0))
instance {φ:bL} {w:World}:CoeFun (Agree φ w) (fun _=> ∀ a v,φ a=some v→w.cell? a=some v):=⟨Agree.cell⟩
structure bL.le (φ ψ:bL):Prop where
 cell: ∀ a v,φ a=some v→ψ a=some v
 blk: ∀ g,φ.b g→ψ.b g
instance {φ ψ:bL}:CoeFun (φ.le ψ) (fun _=> ∀ a v,φ a=some v→ψ a=some v):=⟨bL.le.cell⟩
theorem bL.le_refl (φ:bL):φ.le φ:=⟨fun _ _ h=>h,fun _ h=>h⟩
theorem bL.le_trans {a b c:bL} (h:a.le b) (h':b.le c):a.le c:=⟨fun x v hx=>h' x v (h x v hx),fun g hg=>h'.blk g (h.blk g hg)⟩
def kE (φ:bL) (a:Addr) (cs:List Value):Prop:= ∀ j v,cs[j]? =some v→φ (a.add j)=some v
theorem kE.mono {φ ψ:bL} (h:φ.le ψ) {a:Addr} {cs:List Value} (hp:kE φ a cs):kE ψ a cs:=fun j v hv=>h _ _ (hp j v hv)
def nD (φ:bL) (A:Option Addr) (n:Nat) (cs:List Value):Prop:=0<n→ ∃ ad,A=some ad∧kE φ ad cs
theorem nD.mono {φ ψ:bL} (h:φ.le ψ) {A:Option Addr} {n:Nat} {cs:List Value} (hp:nD φ A n cs):nD ψ A n cs:=fun hn=>let ⟨ad,h1,h2⟩:=hp hn;⟨ad,h1,h2.mono h⟩
def PY (φ:bL) (bx:Bool) (p:Value) (cs:List Value):Prop:=match bx with
 | true=>p= .agg cs.toArray
 | false=> ∃ ad,p= .pointer (some ad)∧kE φ ad cs∧φ.b ad.block
def Fh:Ec→Value→Prop
 | .v x,u=>u=x
 | .e,u=> ∃ A c,u= .slice A 0 c
mutual
def JF (φ:bL):Er→Value→Prop
 | .nil,v=>v= .nilIface
 | .nd t bx cs k,v=> ∃ p us ws,v= .iface t p∧bz Fh cs us∧Uo φ k ws∧PY φ bx p (us++ws)
def Uo (φ:bL):Tl→List Value→Prop
 | .no,ws=>ws=[]
 | .one e,ws=> ∃ u,ws=[u]∧JF φ e u
 | .many l,ws=> ∃ A c us,ws=[.slice A l.length c]∧GJ φ l us∧l.length≤c∧nD φ A l.length us
def GJ (φ:bL):List Er→List Value→Prop
 | [],us=>us=[]
 | e::l,us=> ∃ u r,us=u::r∧JF φ e u∧GJ φ l r
end
theorem PY.mono {φ ψ:bL} (hle:φ.le ψ) {bx:Bool} {p:Value} {cs:List Value} (h:PY φ bx p cs):PY ψ bx p cs:=by
 cases bx with
 | true=>exact h
 | false=>obtain ⟨ad,h1,h2,h3⟩:=h;exact ⟨ad,h1,h2.mono hle,hle.blk _ h3⟩
mutual
theorem JF.mono {φ ψ:bL} (hle:φ.le ψ): ∀ {e:Er} {v:Value},JF φ e v→JF ψ e v
 | .nil,_,h=>h
 | .nd _ _ _ _,_,h=>by obtain ⟨p,us,ws,h1,h2,h3,h4⟩:=h;exact ⟨p,us,ws,h1,h2,Uo.mono hle h3,h4.mono hle⟩
theorem Uo.mono {φ ψ:bL} (hle:φ.le ψ): ∀ {k:Tl} {ws:List Value},Uo φ k ws→Uo ψ k ws
 | .no,_,h=>h
 | .one _,_,h=>by obtain ⟨u,h1,h2⟩:=h;exact ⟨u,h1,JF.mono hle h2⟩
 | .many _,_,h=>by obtain ⟨A,c,us,h1,h2,h3,h4⟩:=h;exact ⟨A,c,us,h1,GJ.mono hle h2,h3,h4.mono hle⟩
theorem GJ.mono {φ ψ:bL} (hle:φ.le ψ): ∀ {l:List Er} {us:List Value},GJ φ l us→GJ ψ l us
 | [],_,h=>h
 | _::_,_,h=>by obtain ⟨u,r,h1,h2,h3⟩:=h;exact ⟨u,r,h1,JF.mono hle h2,GJ.mono hle h3⟩
end
theorem JF.one' {φ:bL}: ∀ {e:Er} {v:Value},JF φ e v→v= .nilIface∨ ∃ t p,v= .iface t p
 | .nil,_,h=> .inl h
 | .nd _ _ _ _,_,h=>by obtain ⟨p,_,_,h1,_⟩:=h;exact .inr ⟨_,p,h1⟩
def Rp (φ:bL):(t:Ty)→t.den→List Value→List Chunk→Prop
 | .tr,x,cs,hs=>(∃ v,cs=[v]∧JF φ x v)∧hs=[]
 | .int k,x,cs,hs=>cs=[.int k x]∧hs=[]
 | .bool,x,cs,hs=>cs=[.bool x]∧hs=[]
 | .str,x,cs,hs=>cs=[iM.str x]∧hs=[]
 | .unit,_,cs,hs=>cs=[]∧hs=[]
 | .it,x,cs,hs=> ∃ (g p:Nat),cs=[.pointer (some ⟨g,0,none⟩)]∧x.2=(p:Int)∧hs=[.obj g (.stringIter ⟨x.1.toArray⟩ p)]
 | .xX,_,cs,hs=> ∃ g,cs=[.pointer (some ⟨g,0,none⟩)]∧hs=[]
 | .dead _ _,_,cs,hs=> ∃ A n c,cs=[.slice A n c]∧hs=[]
 | .sl t,l,cs,hs=> ∃ A c css,cs=[.slice A l.length c]∧l.length≤c∧bz (fun x cs=>Rp φ t x cs []) l css∧nD φ A l.length css.flatten∧hs=[]
 | .rw el t,l,cs,hs=> ∃ A c css,cs=[.slice A l.length c]∧l.length≤c∧bz (fun x cs=>Rp φ t x cs []) l css∧nD φ A l.length css.flatten∧hs=[.row true (.slice A l.length c) el t.size l.length css.flatten]
 | .mr el t,l,cs,hs=> ∃ A c css,cs=[.slice A l.length c]∧l.length≤c∧bz (fun x cs=>Rp φ t x cs []) l css∧(0<l.length→A.isSome=true)∧hs=[.row false (.slice A l.length c) el t.size l.length css.flatten]
 | .ptr t,x,cs,hs=> ∃ ad cs',cs=[.pointer (some ad)]∧Rp φ t x cs' []∧kE φ ad cs'∧hs=[]
 | .eb te t,x,cs,hs=>hs=[]∧match x with
  | none=>cs=[.nilIface]
  | some y=> ∃ ad cs',cs=[.iface te (.pointer (some ad))]∧Rp φ t y cs' []∧kE φ ad cs'
 | .on t,l,cs,hs=> ∃ A c css,cs=[.slice A l.length c]∧l.length≤c∧bz (fun x cs=>Rp φ t x cs []) l css∧nD φ A l.length css.flatten∧(l.isEmpty=A.isNone)∧hs=[]
 | .fl t,l,cs,hs=> ∃ A css,cs=[.slice A l.length l.length]∧bz (fun x cs=>Rp φ t x cs []) l css∧nD φ A l.length css.flatten∧hs=[]
 | .op t,x,cs,hs=>hs=[]∧match x with
  | none=>cs=[.pointer none]
  | some y=> ∃ ad cs',cs=[.pointer (some ad)]∧Rp φ t y cs' []∧kE φ ad cs'
 | .bx id t,x,cs,hs=> ∃ g cs' h0,cs=[.pointer (some ⟨g,0,none⟩)]∧Rp φ t x cs' h0∧hs=iM.blk g id cs'::h0
 | .bo id t,x,cs,hs=>match x with
  | none=>cs=[.pointer none]∧hs=[]
  | some y=> ∃ g cs' h0,cs=[.pointer (some ⟨g,0,none⟩)]∧Rp φ t y cs' h0∧hs=iM.blk g id cs'::h0
 | .bn,x,cs,hs=>(∃ p:Option Addr,cs=[.pointer p]∧p.isSome=x)∧hs=[]
 | .ml el a t,x,cs,hs=>match x with
  | none=>cs=[.slice none 0 0]∧hs=[]
  | some y=> ∃ A c css ce he,cs=[.slice (some A) (y.1.length+1) c]∧y.1.length+1≤c∧bz (fun x cs=>Rp φ a x cs []) y.1 css∧Rp φ t y.2 ce he∧a=t.er∧hs= .row false (.slice (some A) (y.1.length+1) c) el t.size (y.1.length+1) (css.flatten++ce)::he
 | .st t,x,cs,hs=>Rp φ t x cs hs
 | .pr a b,x,cs,hs=> ∃ c1 c2 h1 h2,cs=c1++c2∧hs=h1++h2∧Rp φ a x.1 c1 h1∧Rp φ b x.2 c2 h2
theorem Rp.len {φ:bL}: ∀ {t:Ty} {x:t.den} {cs:List Value} {hs:List Chunk},Rp φ t x cs hs→cs.length=t.size
 | .int _,_,_,_,h=>by rw [h.1];rfl
 | .bool,_,_,_,h=>by rw [h.1];rfl
 | .str,_,_,_,h=>by rw [h.1];rfl
 | .unit,_,_,_,h=>by rw [h.1];rfl
 | .it,_,_,_,h=>by obtain ⟨_,_,h1,_⟩:=h;rw [h1];rfl
 | .xX,_,_,_,h=>by obtain ⟨_,h1,_⟩:=h;rw [h1];rfl
 | .dead _ _,_,_,_,h=>by obtain ⟨_,_,_,h1,_⟩:=h;rw [h1];rfl
 | .sl _,_,_,_,h=>by obtain ⟨_,_,_,h1,_⟩:=h;rw [h1];rfl
 | .rw _ _,_,_,_,h=>by obtain ⟨_,_,_,h1,_⟩:=h;rw [h1];rfl
 | .mr _ _,_,_,_,h=>by obtain ⟨_,_,_,h1,_⟩:=h;rw [h1];rfl
 | .ptr _,_,_,_,h=>by obtain ⟨_,_,h1,_⟩:=h;rw [h1];rfl
 | .eb _ _,none,_,_,h=>by rw [h.2];rfl
 | .eb _ _,some _,_,_,h=>by obtain ⟨_,_,_,h1,_⟩:=h;rw [h1];rfl
 | .on _,_,_,_,h=>by obtain ⟨_,_,_,h1,_⟩:=h;rw [h1];rfl
 | .fl _,_,_,_,h=>by obtain ⟨_,_,h1,_⟩:=h;rw [h1];rfl
 | .op _,none,_,_,h=>by rw [h.2];rfl
 | .op _,some _,_,_,h=>by obtain ⟨_,_,_,h1,_⟩:=h;rw [h1];rfl
 | .bx _ _,_,_,_,h=>by obtain ⟨_,_,_,h1,_⟩:=h;rw [h1];rfl
 | .bo _ _,none,_,_,h=>by rw [h.1];rfl
 | .bo _ _,some _,_,_,h=>by obtain ⟨_,_,_,h1,_⟩:=h;rw [h1];rfl
 | .bn,_,_,_,h=>by obtain ⟨⟨_,h1,_⟩,_⟩:=h;rw [h1];rfl
 | .tr,_,_,_,h=>by obtain ⟨⟨_,h1,_⟩,_⟩:=h;rw [h1];rfl
 | .ml _ _ _,none,_,_,h=>by rw [h.1];rfl
 | .ml _ _ _,some _,_,_,h=>by obtain ⟨_,_,_,_,_,h1,_⟩:=h;rw [h1];rfl
 | .st t,_,_,_,h=>Rp.len (t:=t) h
 | .pr a b,_,_,_,h=>by
  obtain ⟨_,_,_,_,h1,_,h3,h4⟩:=h
  rw [h1,List.length_append,Rp.len h3,Rp.len h4];rfl
theorem Rp.mono {φ ψ:bL} (hle:φ.le ψ): ∀ {t:Ty} {x:t.den} {cs:List Value} {hs:List Chunk},Rp φ t x cs hs→Rp ψ t x cs hs
 | .int _,_,_,_,h=>h
 | .bool,_,_,_,h=>h
 | .str,_,_,_,h=>h
 | .unit,_,_,_,h=>h
 | .it,_,_,_,h=>h
 | .xX,_,_,_,h=>h
 | .dead _ _,_,_,_,h=>h
 | .sl _,_,_,_,h=>by obtain ⟨A,c,css,h1,h2,h3,h4,h5⟩:=h;exact ⟨A,c,css,h1,h2,h3.imp fun _ _ h=>Rp.mono hle h,h4.mono hle,h5⟩
 | .rw _ _,_,_,_,h=>by obtain ⟨A,c,css,h1,h2,h3,h4,h5⟩:=h;exact ⟨A,c,css,h1,h2,h3.imp fun _ _ h=>Rp.mono hle h,h4.mono hle,h5⟩
 | .mr _ _,_,_,_,h=>by obtain ⟨A,c,css,h1,h2,h3,h5⟩:=h;exact ⟨A,c,css,h1,h2,h3.imp fun _ _ h=>Rp.mono hle h,h5⟩
 | .ptr _,_,_,_,h=>by obtain ⟨ad,cs',h1,h2,h3,h4⟩:=h;exact ⟨ad,cs',h1,Rp.mono hle h2,h3.mono hle,h4⟩
 | .eb _ _,none,_,_,h=>h
 | .eb _ _,some _,_,_,h=>by obtain ⟨h0,ad,cs',h1,h2,h3⟩:=h;exact ⟨h0,ad,cs',h1,Rp.mono hle h2,h3.mono hle⟩
 | .on _,_,_,_,h=>by obtain ⟨A,c,css,h1,h2,h3,h4,h5,h6⟩:=h;exact ⟨A,c,css,h1,h2,h3.imp fun _ _ h=>Rp.mono hle h,h4.mono hle,h5,h6⟩
 | .fl _,_,_,_,h=>by obtain ⟨A,css,h1,h3,h4,h5⟩:=h;exact ⟨A,css,h1,h3.imp fun _ _ h=>Rp.mono hle h,h4.mono hle,h5⟩
 | .op _,none,_,_,h=>h
 | .op _,some _,_,_,h=>by obtain ⟨h0,ad,cs',h1,h2,h3⟩:=h;exact ⟨h0,ad,cs',h1,Rp.mono hle h2,h3.mono hle⟩
 | .bx _ _,_,_,_,h=>by obtain ⟨g,cs',h0,h1,h2,h3⟩:=h;exact ⟨g,cs',h0,h1,Rp.mono hle h2,h3⟩
 | .bo _ _,none,_,_,h=>h
 | .bo _ _,some _,_,_,h=>by obtain ⟨g,cs',h0,h1,h2,h3⟩:=h;exact ⟨g,cs',h0,h1,Rp.mono hle h2,h3⟩
 | .bn,_,_,_,h=>h
 | .tr,_,_,_,h=>by obtain ⟨⟨v,h1,h2⟩,h3⟩:=h;exact ⟨⟨v,h1,h2.mono hle⟩,h3⟩
 | .ml _ _ _,none,_,_,h=>h
 | .ml _ _ _,some _,_,_,h=>by obtain ⟨A,c,css,ce,he,h1,h2,h3,h4,h5,h6⟩:=h;exact ⟨A,c,css,ce,he,h1,h2,h3.imp fun _ _ h=>Rp.mono hle h,Rp.mono hle h4,h5,h6⟩
 | .st t,_,_,_,h=>Rp.mono (t:=t) hle h
 | .pr a b,_,_,_,h=>by
  obtain ⟨c1,c2,h1,h2,e1,e2,h3,h4⟩:=h
  exact ⟨c1,c2,h1,h2,e1,e2,Rp.mono hle h3,Rp.mono hle h4⟩
theorem Rp.one {φ:bL}: ∀ {t:Ty} {x:t.den} {cs:List Value} {hs:List Chunk},Rp φ t x cs hs→ ∀ v∈cs,v.oneCell'=true
 | .int _,_,_,_,h=>by rw [h.1];simp [Value.oneCell']
 | .bool,_,_,_,h=>by rw [h.1];simp [Value.oneCell']
 | .str,_,_,_,h=>by rw [h.1];simp [Value.oneCell']
 | .unit,_,_,_,h=>by rw [h.1];simp
 | .it,_,_,_,h=>by obtain ⟨_,_,h1,_⟩:=h;rw [h1];simp [Value.oneCell']
 | .xX,_,_,_,h=>by obtain ⟨_,h1,_⟩:=h;rw [h1];simp [Value.oneCell']
 | .dead _ _,_,_,_,h=>by obtain ⟨_,_,_,h1,_⟩:=h;rw [h1];simp [Value.oneCell']
 | .sl _,_,_,_,h=>by obtain ⟨_,_,_,h1,_⟩:=h;rw [h1];simp [Value.oneCell']
 | .rw _ _,_,_,_,h=>by obtain ⟨_,_,_,h1,_⟩:=h;rw [h1];simp [Value.oneCell']
 | .mr _ _,_,_,_,h=>by obtain ⟨_,_,_,h1,_⟩:=h;rw [h1];simp [Value.oneCell']
 | .ptr _,_,_,_,h=>by obtain ⟨_,_,h1,_⟩:=h;rw [h1];simp [Value.oneCell']
 | .eb _ _,none,_,_,h=>by rw [h.2];simp [Value.oneCell']
 | .eb _ _,some _,_,_,h=>by obtain ⟨_,_,_,h1,_⟩:=h;rw [h1];simp [Value.oneCell']
 | .on _,_,_,_,h=>by obtain ⟨_,_,_,h1,_⟩:=h;rw [h1];simp [Value.oneCell']
 | .fl _,_,_,_,h=>by obtain ⟨_,_,h1,_⟩:=h;rw [h1];simp [Value.oneCell']
 | .op _,none,_,_,h=>by rw [h.2];simp [Value.oneCell']
 | .op _,some _,_,_,h=>by obtain ⟨_,_,_,h1,_⟩:=h;rw [h1];simp [Value.oneCell']
 | .bx _ _,_,_,_,h=>by obtain ⟨_,_,_,h1,_⟩:=h;rw [h1];simp [Value.oneCell']
 | .bo _ _,none,_,_,h=>by rw [h.1];simp [Value.oneCell']
 | .bo _ _,some _,_,_,h=>by obtain ⟨_,_,_,h1,_⟩:=h;rw [h1];simp [Value.oneCell']
 | .bn,_,_,_,h=>by obtain ⟨⟨_,h1,_⟩,_⟩:=h;rw [h1];simp [Value.oneCell']
 | .tr,_,_,_,h=>by
  obtain ⟨⟨_,h1,h2⟩,_⟩:=h
  rw [h1]
  rcases h2.one' with rfl | ⟨t,p,rfl⟩<;>simp [Value.oneCell']
 | .ml _ _ _,none,_,_,h=>by rw [h.1];simp [Value.oneCell']
 | .ml _ _ _,some _,_,_,h=>by obtain ⟨_,_,_,_,_,h1,_⟩:=h;rw [h1];simp [Value.oneCell']
 | .st t,_,_,_,h=>Rp.one (t:=t) h
 | .pr a b,_,_,_,h=>by
  obtain ⟨_,_,_,_,h1,_,h3,h4⟩:=h
  rw [h1]
  intro v hv
  rcases List.mem_append.1 hv with hv | hv
  ·exact Rp.one h3 v hv
  ·exact Rp.one h4 v hv
def sv:Ty→List Value→Value
 | .st _,cs=> .agg cs.toArray
 | _,[v]=>v
 | _,_=>undef
def Ty.top:Ty→Bool
 | .unit=>false
 | .pr _ _=>false
 | .dead _ _=>false
 | _=>true
end Go.Lf
/-
  Regions that draw their order: their form; frames with the values of some heads.
-/
namespace Go.iM
open Go Go.RowKit
def CO (l:List Oper) (n:Nat):Bool:=
 let ops:=l.toArray
 Region.noSelect ops && decide (n≤ops.size)
 && ((List.range ops.size).all fun i=>match ops[i]? with | some o=>o.after.all fun e=> !Region.binds .any e || decide (e.on<i) | none=>true)
 && ((List.range n).all fun i=>match ops[i]? with
   | some oi=>(List.range n).all fun j=>match ops[j]? with
    | some oj=>decide (i=j) || (match oj.dst with
     | some s=>decide (oi.dst≠some s) && (!(oi.looksAt ops).contains s || (decide (j<i) && Region.waitsFor .any ops i j) || (decide (i<j) && Region.waitsFor .any ops j i))
     | none=>true)
    | none=>true
   | none=>true)
 && (decide (n=ops.size) || (Region.sinkB .any ops n && Region.chainB .any ops n))
def uH (ops:Array Oper):Nat→Nat→Nat→Bool
 | 0,i,t=>Nat.beq i t
 | f+1,i,t=>Nat.beq i t || match ops[i]? with
  | some o=>o.after.any fun x=>Region.binds .any x && uH ops f x.on t
  | none=>false
def oG (o:Oper):Bool:=match o.op with
 | .call cl=>match cl.callee with | .value _=>false | _=>true
 | _=>true
def G7 (l:List Oper) (n:Nat):Bool:=
 let ops:=l.toArray
 Region.noSelect ops && decide (n+1≤ops.size)
 && ((List.range ops.size).all fun i=>match ops[i]? with | some o=>o.after.all fun e=> !Region.binds .any e || decide (e.on<i) | none=>true)
 && ((List.range n).all fun i=>match ops[i]? with
   | some oi=>(List.range n).all fun j=>match ops[j]? with
    | some oj=>decide (i=j) || (match oj.dst with
     | some s=>decide (oi.dst≠some s) && (!(oi.looksAt ops).contains s || (decide (j<i) && Region.waitsFor .any ops i j) || (decide (i<j) && Region.waitsFor .any ops j i))
     | none=>true)
    | none=>true
   | none=>true)
 && Region.chainB .any ops n && (decide (n+1=ops.size) || (Region.sinkB .any ops (n+1) && Region.chainB .any ops (n+1)))
 && (match ops[n]? with
   | some ob=>ob.guard.isNone && (match ob.op with | .buildSlice _ _ _=>true | _=>false) && (match ob.dst with
    | some d=>(List.range n).all fun j=>match ops[j]? with
     | some oj=>decide (oj.dst≠some d) && !(oj.looksAt ops).contains d && (oG oj || uH ops n n j) && (match oj.dst with
      | some s=> !(ob.looksAt ops).contains s || Region.waitsFor .any ops n j
      | none=>true)
     | none=>true
    | none=>false)
   | none=>false)
section
variable {P:Program} {Q:Exit→Act→World→Prop}
def puts:List (Oper×Value)→(Nat→Bool)→Nat→Act→Act
 | [],_,_,a=>a
 | (o,v)::r,L,k,a=>puts r L (k+1) (if L k then a.put o.dst v else a)
theorem iP (hl:List (Oper×Value)) (L:Nat→Bool): ∀ k a,(puts hl L k a).tmps.size=a.tmps.size∧(puts hl L k a).defers=a.defers:=by
 induction hl with
 | nil=>intro k a;exact ⟨rfl,rfl⟩
 | cons p r ih=>
  obtain ⟨o,v⟩:=p
  intro k a
  have h1:=ih (k+1) (if L k then a.put o.dst v else a)
  unfold puts
  rw [h1.1,h1.2]
  by_cases h:L k=true
  ·simp only [h,if_true]
   cases o.dst<;>simp [Act.put]
  ·simp [h]
theorem mJ (hl:List (Oper×Value)) (L:Nat→Bool) (s:Nat): ∀ k a,(∀ j o v,hl[j]? =some (o,v)→L (k+j)=true→o.dst≠some s)→(puts hl L k a).tmps[s]? =a.tmps[s]? :=by
 induction hl with
 | nil=>intro k a _;rfl
 | cons p r ih=>
  obtain ⟨o,v⟩:=p
  intro k a h
  unfold puts
  rw [ih (k+1) _ fun j o' v' hj hL=>h (j+1) o' v' (by simpa using hj) (by rwa [show k+(j+1)=k+1+j by omega])]
  by_cases hk:L k=true
  ·simp only [hk,if_true]
   have:=h 0 o v rfl (by simpa using hk)
   cases hd:o.dst with
   | none=>simp [Act.put]
   | some d=>
    have hne:d≠s:=fun e=>this (by rw [hd,e])
    simp [Act.put,Array.getElem?_setIfInBounds_ne hne]
  ·simp [hk]
theorem lF (hl:List (Oper×Value)) (L:Nat→Bool) (s:Nat): ∀ k a j o v,hl[j]? =some (o,v)→L (k+j)=true→o.dst=some s→s<a.tmps.size→
  (∀ i o' v',hl[i]? =some (o',v')→i≠j→o'.dst≠some s)→(puts hl L k a).tmps[s]? =some v:=by
 induction hl with
 | nil=>intro k a j o v hj;simp at hj
 | cons p r ih=>
  obtain ⟨o0,v0⟩:=p
  intro k a j o v hj hL hd hs hne
  unfold puts
  cases j with
  | zero=>
   simp only [List.getElem?_cons_zero,Option.some.injEq,Prod.mk.injEq] at hj
   obtain ⟨rfl,rfl⟩:=hj
   rw [mJ r L s (k+1) _ fun j o' v' hj' _=>hne (j+1) o' v' (by simpa using hj') (by omega)]
   simp only [Nat.add_zero] at hL
   simp [hL,hd,Act.put,hs]
  | succ j=>
   refine ih (k+1) _ j o v (by simpa using hj) (by rwa [show k+1+j=k+(j+1) by omega]) hd ?_ fun i o' v' hi hij=>hne (i+1) o' v' (by simpa using hi) (by omega)
   by_cases hk:L k=true
   ·simp only [hk,if_true]
    cases o0.dst<;>simpa [Act.put] using hs
   ·simpa [hk] using hs
theorem eG (hl:List (Oper×Value)) (L L':Nat→Bool): ∀ k a,(∀ j,j<hl.length→L (k+j)=L' (k+j))→puts hl L k a=puts hl L' k a:=by
 induction hl with
 | nil=>intro k a _;rfl
 | cons p r ih=>
  obtain ⟨o,v⟩:=p
  intro k a h
  unfold puts
  have h0:=h 0 (by simp)
  simp only [Nat.add_zero] at h0
  rw [h0]
  exact ih _ _ fun j hj=>by
   have:=h (j+1) (by simp;omega)
   rwa [show k+(j+1)=k+1+j by omega] at this
theorem Sq {a b:Act} (h1:a.tmps.size=b.tmps.size) (h2:a.defers=b.defers) (h3: ∀ s:Nat,a.tmps[s]? =b.tmps[s]?):a=b:=by
 cases a with
 | mk at1 ad=>
  cases b with
  | mk bt bd=>
   simp only at h1 h2 h3
   subst h2
   congr 1
   exact Array.ext_getElem? h3
def sP (hl:List (Oper×Value)):Prop:= ∀ (i j:Nat) (o:Oper) (v:Value) (o':Oper) (v':Value) (s:Nat),hl[i]? =some (o,v)→hl[j]? =some (o',v')→i≠j→o.dst=some s→o'.dst≠some s
theorem wZ {hl:List (Oper×Value)} (hd:sP hl) {L:Nat→Bool} {i:Nat} {o:Oper} {v:Value} (hi:hl[i]? =some (o,v)) (hL:L i=false) (a:Act):
  (puts hl L 0 a).put o.dst v=puts hl (fun j=>L j || Nat.beq j i) 0 a:=by
 refine Sq ?_ ?_ fun s=>?_
 ·rw [(iP hl _ 0 a).1]
  cases o.dst<;>simp [Act.put,(iP hl L 0 a).1]
 ·rw [(iP hl _ 0 a).2]
  cases o.dst<;>simp [Act.put,(iP hl L 0 a).2]
 ·by_cases hs:s<a.tmps.size
  ·by_cases hex: ∃ j o' v',hl[j]? =some (o',v')∧o'.dst=some s∧(L j || Nat.beq j i)=true
   ·obtain ⟨j,o',v',hj,hds,hLj⟩:=hex
    rw [lF hl _ s 0 a j o' v' hj (by simpa using hLj) hds hs fun k o2 v2 hk hkj hd2=>hd k j o2 v2 o' v' s hk hj hkj hd2 hds]
    by_cases hji:j=i
    ·subst hji
     have:(o',v')=(o,v):=Option.some.inj (hj.symm.trans hi)
     injection this with h1 h2
     subst h1 h2
     have hlt:s<(puts hl L 0 a).tmps.size:=by rw [(iP hl L 0 a).1];exact hs
     simp [hds,Act.put,hlt]
    ·have hLj':L j=true:=by simpa [hji] using hLj
     have hne:o.dst≠some s:=hd j i o' v' o v s hj hi hji hds
     have h1:=lF hl L s 0 a j o' v' hj (by simpa using hLj') hds hs fun k o2 v2 hk hkj hd2=>hd k j o2 v2 o' v' s hk hj hkj hd2 hds
     cases hod:o.dst with
     | none=>simpa [Act.put] using h1
     | some d=>
      have hne':d≠s:=fun e=>hne (by rw [hod,e])
      simpa [Act.put,Array.getElem?_setIfInBounds_ne hne'] using h1
   ·rw [mJ hl _ s 0 a fun j o' v' hj hLj hds=>hex ⟨j,o',v',hj,hds,by simpa using hLj⟩]
    have h1:=mJ hl L s 0 a fun j o' v' hj hLj hds=>hex ⟨j,o',v',hj,hds,by simp at hLj;simp [hLj]⟩
    cases hod:o.dst with
    | none=>simpa [Act.put] using h1
    | some d=>
     have hne':d≠s:=fun e=>hex ⟨i,o,v,hi,by rw [hod,e],by simp⟩
     simpa [Act.put,Array.getElem?_setIfInBounds_ne hne'] using h1
  ·have h1: ∀ b:Act,b.tmps.size=a.tmps.size→b.tmps[s]? =none:=fun b hb=>Array.getElem?_eq_none (by omega)
   rw [h1 _ (by cases o.dst<;>simp [Act.put,(iP hl L 0 a).1]),h1 _ (iP hl _ 0 a).1]
theorem l8 {listed:Array Bool} {j:Nat} (h:j<listed.size):listed.getD j true=listed.getD j false:=by simp [h]
theorem tO {ops:Array Oper} {n:Nat} (hedge: ∀ (i:Nat) (o:Oper),ops[i]? =some o→ ∀ x∈o.after,Region.binds .any x=true→x.on<i) (hc:n=ops.size∨Region.chainB .any ops n=true):
  ∀ (fuel m:Nat) (listed:Array Bool) (a:Act) (w:World),n≤m→m≤ops.size→listed.size=ops.size→(∀ j,j<ops.size→listed.getD j false=decide (j<m))→ops.size - m≤fuel→
   wpList P ops Q (ops.toList.drop m) a w→wpAny P .any ops Q fuel listed a w:=by
 intro fuel
 induction fuel with
 | zero=>
  intro m listed a w hnm hm hsz hl hfu h
  have hme:m=ops.size:=by omega
  have hnr:Region.ready .any ops listed=[]:=by
   apply List.eq_nil_iff_forall_not_mem.2
   intro j hj
   obtain ⟨h1,o,ho,_⟩:=mem_ready.1 hj
   have hlt:=(Array.getElem?_eq_some_iff.1 ho).1
   rw [l8 (by omega),hl j hlt,hme] at h1
   simp at h1
   omega
  refine ⟨hnr,?_⟩
  rw [List.drop_eq_nil_of_le (by simp [hme])] at h
  exact h
 | succ fuel ih=>
  intro m listed a w hnm hm hsz hl hfu h
  by_cases hme:m=ops.size
  ·have hnr:Region.ready .any ops listed=[]:=by
    apply List.eq_nil_iff_forall_not_mem.2
    intro j hj
    obtain ⟨h1,o,ho,_⟩:=mem_ready.1 hj
    have hlt:=(Array.getElem?_eq_some_iff.1 ho).1
    rw [l8 (by omega),hl j hlt,hme] at h1
    simp at h1
    omega
   rw [List.drop_eq_nil_of_le (by simp [hme])] at h
   exact ⟨fun _=>h,fun i hi=>(by rw [hnr] at hi;cases hi)⟩
  ·have hlt:m<ops.size:=by omega
   have hmr:m∈Region.ready .any ops listed:=by
    refine mem_ready.2 ⟨?_,ops[m],Array.getElem?_eq_getElem hlt,fun x hx hbx=>?_⟩
    ·rw [l8 (by omega),hl m hlt]
     simp
    ·have:=hedge m _ (Array.getElem?_eq_getElem hlt) x hx hbx
     rw [hl _ (by omega)]
     simp [this]
   refine ⟨fun h0=>(by rw [h0] at hmr;cases hmr),fun i hi=>?_⟩
   obtain ⟨h1,o,ho,hall⟩:=mem_ready.1 hi
   have hil:=(Array.getElem?_eq_some_iff.1 ho).1
   have hge:m≤i:=by
    rw [l8 (by omega),hl i hil] at h1
    simpa using h1
   have him:i=m:=by
    rcases Nat.lt_or_ge m i with h2 | h2
    ·exfalso
     rcases hc with h3 | h3
     ·omega
     ·have h4:=List.all_eq_true.1 h3 i (List.mem_range.2 hil)
      simp only [Bool.or_eq_true,decide_eq_true_eq] at h4
      rcases h4 with h4 | h4
      ·omega
      ·obtain ⟨o',ho',x,hx,hb,hon⟩:=Region.waitsFor_spec h4
       have:o'=o:=Option.some.inj (ho'.symm.trans ho)
       subst this
       have h5:=hall x hx hb
       rw [hon,hl _ (by omega)] at h5
       simp at h5
       omega
    ·omega
   subst him
   have hd:ops.toList.drop i=ops[i]::ops.toList.drop (i+1):=by
    rw [List.drop_eq_getElem_cons (by simpa using hil)]
    simp
   rw [hd] at h
   have hw:wpOp P ops Q i (wpList P ops Q (ops.toList.drop (i+1))) a w:=by
    unfold wpOp
    rw [Array.getElem?_eq_getElem hil]
    exact h
   refine wpOp_mono (fun a' w' h'=>ih (i+1) _ a' w' (by omega) (by omega) (by simpa using hsz) (fun j hj=>?_) (by omega) h') hw
   by_cases hji:i=j
   ·subst hji
    have h7:i<listed.size:=by omega
    simp [h7]
   ·rw [getD_set_ne false hji,hl j hj]
    rw [Bool.eq_iff_iff]
    simp
    omega
theorem sQ {l:List Nat} {p p':Nat→Bool} (hp: ∀ x∈l,p' x=true→p x=true) {y:Nat} (hy:y∈l) (h1:p y=true) (h2:p' y=false):l.countP p'<l.countP p:=by
 induction l with
 | nil=>cases hy
 | cons x r ih=>
  have hmono:r.countP p'≤r.countP p:=List.countP_mono_left fun z hz h=>hp z (List.mem_cons_of_mem _ hz) h
  rcases List.mem_cons.1 hy with rfl | hy
  ·simp [h1,h2]
   omega
  ·have:=ih (fun z hz h=>hp z (List.mem_cons_of_mem _ hz) h) hy
   have hx:=hp x List.mem_cons_self
   simp only [List.countP_cons]
   cases hpx:p' x
   ·simp;omega
   ·simp [hx hpx];omega
structure IA (l:List Oper) (n:Nat):Prop where
 DY:Region.noSelect l.toArray=true
 le:n≤l.length
 edge: ∀ (i:Nat) (o:Oper),l.toArray[i]? =some o→ ∀ x∈o.after,Region.binds .any x=true→x.on<i
 xe: ∀ (i j:Nat) (oi oj:Oper) (s:Nat),i<n→j<n→l[i]? =some oi→l[j]? =some oj→i≠j→oj.dst=some s→oi.dst≠some s∧(s∈oi.looksAt l.toArray→(j<i∧Region.waitsFor .any l.toArray i j=true)∨(i<j∧Region.waitsFor .any l.toArray j i=true))
 tail:n=l.length∨(Region.sinkB .any l.toArray n=true∧Region.chainB .any l.toArray n=true)
theorem AZ {l:List Oper} {n:Nat} (h:CO l n=true):IA l n:=by
 unfold CO at h
 simp only [Bool.and_eq_true,decide_eq_true_eq,Bool.or_eq_true] at h
 obtain ⟨⟨⟨⟨h1,h2⟩,h3⟩,h4⟩,h5⟩:=h
 refine ⟨h1,by simpa using h2,fun i o ho x hx hbx=>?_,fun i j oi oj s hi hj hoi hoj hij hds=>?_,by simpa using h5⟩
 ·have hlt:=(Array.getElem?_eq_some_iff.1 ho).1
  have h6:=List.all_eq_true.1 h3 i (List.mem_range.2 hlt)
  rw [ho] at h6
  have h7:=Array.all_eq_true_iff_forall_mem.1 h6 x hx
  simpa [hbx] using h7
 ·have h6:=List.all_eq_true.1 h4 i (List.mem_range.2 hi)
  have hoi':l.toArray[i]? =some oi:=by simpa using hoi
  have hoj':l.toArray[j]? =some oj:=by simpa using hoj
  rw [hoi'] at h6
  have h7:=List.all_eq_true.1 h6 j (List.mem_range.2 hj)
  rw [hoj'] at h7
  simp only [Bool.or_eq_true,decide_eq_true_eq,hds] at h7
  rcases h7 with h7 | h7
  ·exact absurd h7 hij
  ·simp only [Bool.and_eq_true,Bool.or_eq_true,Bool.not_eq_true',decide_eq_true_eq] at h7
   refine ⟨h7.1,fun hm=>?_⟩
   rcases h7.2 with (h8 | h8) | h8
   ·rw [List.contains_iff_mem.2 hm] at h8
    cases h8
   ·exact .inl h8
   ·exact .inr h8
end
end Go.iM
/-
  The interpreter over plain values.
-/
namespace Go.Lf
open Go
inductive Dir where | i | l | r
 deriving DecidableEq
def aU:(t:Ty)→List Dir→t.den→Option Dn
 | t,[],x=>some ⟨t,x⟩
 | .st t, .i::p,x=>aU t p x
 | .pr a _, .l::p,x=>aU a p x.1
 | .pr _ b, .r::p,x=>aU b p x.2
 | _,_,_=>none
def bN:(t:Ty)→List Dir→Dn→t.den→Option Dn
 | t,[],y,_=>if y.1.er=t.er then some y else none
 | .st t, .i::p,y,x=>match bN t p y x with | some z=>some ⟨.st z.1,z.2⟩ | none=>none
 | .pr a b, .l::p,y,x=>match bN a p y x.1 with | some z=>some ⟨.pr z.1 b,(z.2,x.2)⟩ | none=>none
 | .pr a b, .r::p,y,x=>match bN b p y x.2 with | some z=>some ⟨.pr a z.1,(x.1,z.2)⟩ | none=>none
 | _,_,_,_=>none
def aH:Ty→List Dir→Nat
 | _,[]=>0
 | .st t, .i::p=>aH t p
 | .pr a _, .l::p=>aH a p
 | .pr a b, .r::p=>a.size+aH b p
 | _,_=>0
def aD:Ty→Nat→List Dir
 | .pr _ _,0=>[.l]
 | .pr _ b,f+1=> .r::aD b f
 | _,_=>[]
def bX:Ty→List Dir→Option Ty
 | t,[]=>some t
 | .st t, .i::p=>bX t p
 | .pr a _, .l::p=>bX a p
 | .pr _ b, .r::p=>bX b p
 | _,_=>none
def nf:Ty→Nat
 | .pr _ b=>nf b+1
 | .unit=>0
 | _=>1
def coe:(t t':Ty)→t.den→Option t'.den
 | .st a, .st b,x=>if h:a=b then some (h▸x) else coe a b x
 | .pr a b, .pr a' b',x=>match coe a a' x.1,coe b b' x.2 with | some y,some z=>some (y,z) | _,_=>none
 | .rw _ a, .sl b,x=>if h:a=b then some (h▸x:List b.den) else none
 | .on a, .sl b,x=>if h:a=b then some (h▸x:List b.den) else none
 | .fl a, .sl b,x=>if h:a=b then some (h▸x:List b.den) else none
 | .it, .xX,_=>some ()
 | .bx _ _, .xX,_=>some ()
 | .bo _ a, .bn,x=>some (Option.isSome (x:Option a.den))
 | .ptr a, .op b,x=>if h:a=b then some (some (h▸x:b.den)) else none
 | t,t',x=>if h:t=t' then some (h▸x) else none
def zb:(t:Ty)→t.den→Option (List Ec)
 | .int k,x=>some [.v (.int k x)]
 | .bool,x=>some [.v (.bool x)]
 | .str,x=>some [.v (iM.str x)]
 | .unit,_=>some []
 | .sl _,x=>match x with
  | []=>some [.e]
  | _::_=>none
 | .st t,x=>zb t x
 | .pr a b,x=>match zb a x.1,zb b x.2 with
  | some c,some d=>some (c++d)
  | _,_=>none
 | _,_=>none
def Dr (tid:Nat) (bx:Bool):List Ec→(t:Ty)→t.den→Option Er
 | cs, .st t,x=>Dr tid bx cs t x
 | cs, .pr .tr .unit,x=>some (.nd tid bx cs (.one x.1))
 | cs, .pr (.sl .tr) .unit,x=>some (.nd tid bx cs (.many x.1))
 | cs, .pr a b,x=>match zb a x.1 with
  | some c=>Dr tid bx (cs++c) b x.2
  | none=>none
 | cs, .unit,_=>some (.nd tid bx cs .no)
 | _,_,_=>none
def Aw:(t:Ty)→List Ec→Option t.den
 | .int k,cs=>match cs with
  | [.v (.int k' n)]=>if k'=k then some (n:Int) else none
  | _=>none
 | .bool,cs=>match cs with
  | [.v (.bool b)]=>some b
  | _=>none
 | .str,cs=>match cs with
  | [.v (.string s)]=>some (s.data.toList:List UInt8)
  | _=>none
 | .unit,cs=>match cs with
  | []=>some ()
  | _=>none
 | .sl t,cs=>match cs with
  | [.e]=>some ([]:List t.den)
  | _=>none
 | .st t,cs=>Aw t cs
 | .pr a b,cs=>match Aw a (cs.take a.size),Aw b (cs.drop a.size) with
  | some x,some y=>some (x,y)
  | _,_=>none
 | _,_=>none
def Bj:(a b:Ty)→List Ec→Tl→Option (a.den×b.den)
 | .tr, .unit,cs,k=>match cs,k with
  | [], .one e=>some (e,())
  | _,_=>none
 | .sl .tr, .unit,cs,k=>match cs,k with
  | [], .many l=>some ((l:List Er),())
  | _,_=>none
 | _,_,_,_=>none
def I9:(t:Ty)→List Ec→Tl→Option t.den
 | .st t,cs,k=>I9 t cs k
 | .pr a b,cs,k=>match Bj a b cs k with
  | some x=>some x
  | none=>match Aw a (cs.take a.size),I9 b (cs.drop a.size) k with
   | some x,some y=>some (x,y)
   | _,_=>none
 | .unit,cs,k=>match cs,k with
  | [], .no=>some ()
  | _,_=>none
 | _,_,_=>none
def XD (a:Nat) (t:Ty):Er→Option (Option t.den)
 | .nil=>some none
 | .nd i bx cs k=>bif Nat.beq i a then (bif bx then none else match I9 t cs k with
  | some y=>some (some y)
  | none=>none) else some none
def zero:(t:Ty)→Option t.den
 | .int _=>some (0:Int)
 | .bool=>some false
 | .str=>some ([]:List UInt8)
 | .unit=>some ()
 | .sl t=>some ([]:List t.den)
 | .rw _ t=>some ([]:List t.den)
 | .mr _ t=>some ([]:List t.den)
 | .eb _ t=>some (none:Option t.den)
 | .op t=>some (none:Option t.den)
 | .st t=>zero t
 | .pr a b=>match zero a,zero b with | some x,some y=>some (x,y) | _,_=>none
 | .it=>none
 | .xX=>none
 | .dead _ _=>none
 | .bx _ _=>none
 | .bo _ t=>some (none:Option t.den)
 | .bn=>some false
 | .tr=>some Er.nil
 | .ml _ a t=>some (none:Option (List a.den×t.den))
 | .on _=>none
 | .fl _=>none
 | .ptr _=>none
inductive D:Type
 | v (t:Ty) (x:t.den)
 | uW | Es | RO | und | EF
 | ref (j:Nat) (p:List Dir) (o:Nat)                       -- a pointer into an object
 | Ca (t:Ty) (x:t.den)                                     -- a pointer to what no more turns
 | bO (j:Nat) (p:List Dir) (o:Nat)                      -- the slice that stands in an object's place
 | xZ (j:Nat) (p:List Dir) (o:Nat) (n sz:Nat) (q:List Dir) (qo:Nat)   -- a pointer into its n-th element,which has so many cells
 | xV (j:Nat) (p:List Dir) (o:Nat) (m:Option Nat) (sz:Nat) (q:List Dir) (qo:Nat)   -- nil,or a pointer into the m-th element of the array in an object's place
 | BQ (l:List Dn)
 | fn (f:Nat)
 | sJ (j:Nat) (p:List Dir) (o:Nat)                       -- a pointer to a cell that no more turns and holds a pointer into an object
 | NQ (j:Nat) (p:List Dir) (o:Nat) (k n:Nat)           -- the first k of the n elements of the array in an object's place,as a slice
 | MK (te:Nat) (j:Nat) (p:List Dir) (o:Nat)            -- an interface that holds a pointer into an object
 | zR (g n:Nat) (l:List (Bool×Nat×List Dir×Nat))     -- a function with pointers bound to it: 'n' ahead,the others captured;true:to such a cell
structure Ob where
 tid:Option Nat
 t:Ty
 x:t.den
structure St where
 env:List (Nat×D)
 az:List (Nat×Ob)
def look {α:Type}:List (Nat×α)→Nat→Option α
 | [],_=>none
 | (k,v)::r,n=>bif Nat.beq k n then some v else look r n
def aQ {α:Type}:List (Nat×α)→Nat→α→List (Nat×α)
 | [],n,x=>[(n,x)]
 | (k,v)::r,n,x=>bif Nat.beq k n then (n,x)::r else (k,v)::aQ r n x
def sO {α:Type}:List (Nat×α)→Nat→List (Nat×α)
 | [],_=>[]
 | (k,v)::r,n=>bif Nat.beq k n then sO r n else (k,v)::sO r n
def mem (n:Nat):List Nat→Bool
 | []=>false
 | k::r=>bif Nat.beq k n then true else mem n r
def ai:List Ty→Type
 | []=>Unit
 | [a]=>a.den
 | a::b::r=>a.den×ai (b::r)
inductive Md where | dir | sJ | bnd (g:Nat) | Ui (te:Nat)
def Md.d:Md→Nat→List Dir→Nat→D
 | .dir,j,p,o=> .ref j p o
 | .sJ,j,p,o=> .sJ j p o
 | .bnd g,j,p,o=> .zR g 1 [(false,j,p,o)]
 | .Ui te,j,p,o=> .MK te j p o
def Md.of:Md→D→Option (Nat×List Dir×Nat)
 | .dir, .ref j p o=>some (j,p,o)
 | .sJ, .sJ j p o=>some (j,p,o)
 | .bnd g, .zR g' 1 [(false,j,p,o)]=>bif Nat.beq g g' then some (j,p,o) else none
 | .Ui te, .MK te' j p o=>bif Nat.beq te te' then some (j,p,o) else none
 | _,_=>none
inductive fq where
 | val (t:Ty)
 | Bv (g:Nat)   -- just this function
 | obj (tid:Nat) (t t':Ty) (p:List Dir) (m:Md:= .dir)   -- the pointer shows the object's part at 'p'
def fq.ty:fq→Ty | .val t=>t | .Bv _=> .unit | .obj _ t _ _ _=>t
def outs:List fq→List Ty
 | []=>[]
 | .val _::r=>outs r
 | .Bv _::r=>outs r
 | .obj _ _ t' _ _::r=>t'::outs r
structure Entry where
 ps:List fq
 rs:List Ty
 f:ai (ps.map fq.ty)→Option (ai (rs++outs ps))
structure Iv where
 m:String
 rs:List Ty
 f:Er→Option (ai rs)
structure HV where
 ty:Ty
 el:Nat
 sz:Nat
structure Ip where
 tid:Nat
 t:Ty
 p0:List Dir
 p:List Dir
 o:Nat
 sz:Nat
 f:t.den→Option (Option Nat)
structure Ctx where
 n:Nat
 ty:List (Nat×HV)
 fn:List (Nat×Entry)
 tk:List Nat
 ef:List Nat
 own:List (Nat×Ty)
 ip:List (Nat×Ip):=[]
 eqs:List (Nat×Ty):=[]             -- structs that may be compared
 fx:List (Nat×(Nat×Entry)):=[]   -- what is known of a function where its result goes to this slot
 fu:Option Nat:=none                 -- a bound on every loop
 im:List (Nat×List (Nat×Bool)):=[]   -- interfaces:which types have their methods
 iv:List (Nat×Iv):=[]              -- what is known of a method whose result goes to this slot
def X7 (l:List (Nat×Bool)):Er→Option Bool
 | .nil=>some false
 | .nd i _ _ _=>look l i
def EI (c:Ctx) (d:Option Nat) (f:Nat):Option Entry:=match d with
 | some d=>match look c.fx d with
  | some (g,e)=>bif Nat.beq g f then some e else none
  | none=>look c.fn f
 | none=>look c.fn f
def uh:Value→D
 | .int k n=> .v (.int k) n
 | .bool b=> .v .bool b
 | .string s=> .v .str s.data.toList
 | .slice none 0 0=> .uW
 | .pointer none=> .Es
 | .nilIface=> .RO
 | _=> .und
def BA:List Dn→Option (List Dn)
 | []=>some []
 | ⟨t,x⟩::r=>match coe t t.er x,BA r with | some y,some l=>some (⟨t.er,y⟩::l) | _,_=>none
def D.j5:D→D
 | .v t x=>match coe t t.er x with | some y=> .v t.er y | none=> .und
 | .BQ l=>match BA l with | some l'=> .BQ l' | none=> .und
 | d=>d
def St.raw (S:St):Operand→D
 | .tmp t=>match look S.env t with | some d=>d | none=> .und
 | .const c=>uh c
 | .func f=> .fn f
 | .global _=> .und
def St.get (S:St) (x:Operand):D:=(S.raw x).j5
def St.put (S:St) (d:Nat) (x:D):St:=⟨aQ S.env d x,S.az⟩
def St.strip (S:St):Operand→St
 | .tmp t=>match look S.env t with | some d=>S.put t d.j5 | none=>S
 | _=>S
def gy (t:Ty):D→Option t.den
 | .v t' x=>coe t' t x
 | .uW=>match t with | .sl a=>some ([]:List a.den) | .rw _ a=>some ([]:List a.den) | .mr _ a=>some ([]:List a.den) | _=>none
 | .RO=>match t with | .eb _ a=>some (none:Option a.den) | .tr=>some Er.nil | _=>none
 | .Es=>match t with | .op a=>some (none:Option a.den) | .bo _ a=>some (none:Option a.den) | _=>none
 | .Ca t' y=>match t with
  | .op a=>if h:t'=a then some (some (h▸y):Option a.den) else none
  | .ptr a=>if h:t'=a then some (h▸y:a.den) else none
  | _=>none
 | _=>none
def St.at (S:St) (j:Nat) (p:List Dir) (o:Nat):Option Dn:=match look S.az j with
 | some ob=>bif Nat.beq (aH ob.t p) o then aU ob.t p ob.x else none
 | none=>none
def St.ED (S:St) (j:Nat) (p:List Dir) (o:Nat):Option Dn:=match look S.az j with
 | some ob=>match ob.tid with
  | some _=>bif Nat.beq (aH ob.t p) o then aU ob.t p ob.x else none
  | none=>none
 | none=>none
def jB (j o n:Nat):List (Nat×D)→List (Nat×D)
 | []=>[]
 | (k, .bO j' p o')::r=>(k,bif Nat.beq j j' && Nat.ble o o' && Nat.blt o' (o+n) then .und else .bO j' p o')::jB j o n r
 | (k, .xZ j' p o' m z q qo)::r=>(k,bif Nat.beq j j' && Nat.ble o o' && Nat.blt o' (o+n) then .und else .xZ j' p o' m z q qo)::jB j o n r
 | (k,d)::r=>(k,d)::jB j o n r
def xD (d:D) (k:Nat):Prop:=match d with
 | .ref j _ _=>k=j
 | .bO j _ _=>k=j
 | .xZ j _ _ _ _ _ _=>k=j
 | .xV j _ _ _ _ _ _=>k=j
 | .sJ j _ _=>k=j
 | .MK _ j _ _=>k=j
 | .NQ j _ _ _ _=>k=j
 | .zR _ _ l=> ∃ p∈l,k=p.2.1
 | _=>False
def D.hits (j:Nat):D→Bool
 | .ref i _ _=>Nat.beq j i
 | .bO i _ _=>Nat.beq j i
 | .xZ i _ _ _ _ _ _=>Nat.beq j i
 | .xV i _ _ _ _ _ _=>Nat.beq j i
 | .sJ i _ _=>Nat.beq j i
 | .MK _ i _ _=>Nat.beq j i
 | .NQ i _ _ _ _=>Nat.beq j i
 | .zR _ _ l=>l.any fun p=>Nat.beq j p.2.1
 | _=>false
def oZ (j:Nat):List (Nat×D)→List (Nat×D)
 | []=>[]
 | (k,d)::r=>(k,bif d.hits j then .und else d)::oZ j r
def St.w9 (S:St) (j:Nat) (p:List Dir) (o:Nat) (y:Dn):Option St:=match look S.az j with
 | some ob=>bif Nat.beq (aH ob.t p) o then
   match bN ob.t p y ob.x with
   | some z=>some ⟨jB j o y.1.size S.env,aQ S.az j ⟨ob.tid,z.1,z.2⟩⟩
   | none=>none
  else none
 | none=>none
def St.takeA (S:St) (j:Nat) (p:List Dir) (o:Nat):Option (Dn×St):=match look S.az j with
 | some ob=>match ob.tid,p with
  | none,[]=>match ob.t,ob.x with
   | .mr el t,l=>bif Nat.beq o 0 then some (⟨.mr el t,l⟩,⟨oZ j S.env,sO S.az j⟩) else none
   | _,_=>none
  | none,_=>none
  | some _,p=>match aU ob.t p ob.x with
   | some ⟨.mr el t,l⟩=>match S.w9 j p o ⟨.dead el t,()⟩ with
    | some S'=>some (⟨.mr el t,l⟩,S')
    | none=>none
   | _=>none
 | none=>none
def St.open_ (S:St) (j:Nat) (p:List Dir) (o:Nat):Option (Dn×St):=match S.takeA j p o with
 | some (⟨.mr _ t,l⟩,S1)=>match look S1.az j with
  | some _=>match S1.w9 j p o ⟨.sl t,l⟩ with
   | some S2=>some (⟨.sl t,l⟩,S2)
   | none=>none
  | none=>some (⟨.sl t,l⟩,S1)
 | _=>none
def Fv (j:Nat) (x:D):List (Nat×D)→List (Nat×D)
 | []=>[]
 | (k, .bO j' [] 0)::r=>(k,bif Nat.beq j' j then x else .bO j' [] 0)::Fv j x r
 | p::r=>p::Fv j x r
def Us (j:Nat) (t:Ty) (y:t.den):List (Nat×D)→List (Nat×D)
 | []=>[]
 | (k, .ref j' [] 0)::r=>(k,bif Nat.beq j j' then .Ca t y else .ref j' [] 0)::Us j t y r
 | p::r=>p::Us j t y r
def Pq (j:Nat) (x:D):List (Nat×D)→List (Nat×D)
 | []=>[]
 | (k, .ref j' [] 0)::r=>(k,bif Nat.beq j j' then x else .ref j' [] 0)::Pq j x r
 | p::r=>p::Pq j x r
def YP (S:St) (j:Nat):Option St:=match look S.az j with
 | some ob=>match ob.tid with
  | some _=>match coe ob.t ob.t.er ob.x with
   | some y=>some ⟨oZ j (Us j ob.t.er y S.env),sO S.az j⟩
   | none=>none
  | none=>none
 | none=>none
def O5 (S:St) (j:Nat):Option St:=match S.open_ j [] 0 with
 | some (⟨.sl t,l⟩,S1)=>some ⟨Fv j (.v (.sl t) l) S.env,S1.az⟩
 | _=>none
def St.use (S:St) (take:Bool) (x:Operand):Option (D×St):=match S.raw x with
 | .bO j p o=>match S.open_ j p o with
  | some (y,S')=>some (.v y.1 y.2,S')
  | none=>none
 | .und=>none
 | d=>bif take then some (d,S.strip x) else (match d.j5 with | .und=>none | d'=>some (d',S))
def St.QZ (S:St) (t:Ty) (x:Operand):Option (D×St):=match t,S.raw x with
 | .mr _ _, .bO j p o=>match S.takeA j p o with
  | some (y,S')=>some (.v y.1 y.2,S')
  | none=>none
 | .bx id t, .ref j [] 0=>match look S.az j with
  | some ob=>if ob.tid=some id then match coe ob.t t ob.x with
    | some y=>some (.v (.bx id t) y,⟨oZ j S.env,sO S.az j⟩)
    | none=>none
   else none
  | none=>none
 | .bo id t, .ref j [] 0=>match look S.az j with
  | some ob=>if ob.tid=some id then match coe ob.t t ob.x with
    | some y=>some (.v (.bo id t) (some y:Option t.den),⟨oZ j S.env,sO S.az j⟩)
    | none=>none
   else none
  | none=>none
 | t,_=>S.use (decide (t≠t.er)) x
def fB (a:Ty):Nat→Ty
 | 0=> .unit
 | n+1=> .pr a (fB a n)
def kD (a:Ty):(n:Nat)→(fB a n).den→List a.den
 | 0,_=>[]
 | n+1,x=>x.1::kD a n x.2
def Ef (a:Ty):(n:Nat)→(fB a n).den→Nat→a.den→(fB a n).den
 | 0,x,_,_=>x
 | _+1,x,0,e=>(e,x.2)
 | n+1,x,k+1,e=>(x.1,Ef a n x.2 k e)
def ma {t t':Ty} (h:t=t') (x:t.den):t'.den:=h▸x
def Xu (t a:Ty) (y:t.den):Option (List a.den):=if h:t=fB a (nf t) then some (kD a (nf t) (ma h y)) else none
def YQ (t a:Ty) (y:t.den) (n:Nat) (e:a.den):Option t.den:=if h:t=fB a (nf t) then some (ma h.symm (Ef a (nf t) (ma h y) n e)) else none
def Rx (j o n:Nat):List (Nat×D)→Bool
 | []=>true
 | (_, .bO j' _ o')::r=>bif Nat.beq j j' && Nat.ble o o' && Nat.blt o' (o+n) then false else Rx j o n r
 | (_, .xZ j' _ o' _ _ _ _)::r=>bif Nat.beq j j' && Nat.ble o o' && Nat.blt o' (o+n) then false else Rx j o n r
 | _::r=>Rx j o n r
def J8:Ty→Option Ty
 | .pr a _=>some a
 | _=>none
def iy (c:Ctx) (id:Nat) (t:Ty):Bool:=match look c.ty id with
 | some i=>decide (i.ty=t)
 | none=>false
def idx {α:Type} (l:List α) (i:Int):Option α:=if 0≤i then l[i.toNat]? else none
def nth {α:Type} (l:List α) (n:Nat):Option α:=l[n]?
def lG (n:Nat) (i:Int):Option Nat:=if 0≤i∧i<n then some i.toNat else none
def app {α:Type} (b:Nat) (l m:List α):Option (List α):=if (l.length+m.length)*b≤140737488355328 then some (l++m) else none
def Uu {α:Type} (b:Nat) (l m:List α):Option (List α):=match m with
 | []=>none
 | _::_=>app b l m
def cat (l m:List UInt8):Option (List UInt8):=if l.length+m.length≤9223372036854775807 then some (l++m) else none
def sub {α:Type} (l:List α) (a b:Int):Option (List α):=if 0≤a∧a≤b∧b≤l.length then some ((l.drop a.toNat).take (b.toNat - a.toNat)) else none
def nz (b:Int) (x:Int):Option Int:=if b=0 then none else some x
def nn (b:Int) (x:Int):Option Int:=if b<0 then none else some x
def bits (op:BinOp) (k:IntKind) (a b:Int):Int:=
 let l:=(BitVec.ofInt k.bits a)
 let m:=(BitVec.ofInt k.bits b)
 let r:=match op with | .and=>l &&& m | .or=>l ||| m | .xor=>l ^^^m | _=>l &&& ~~~m
 k.wrap (r.toNat:Int)
def Jy {α β:Type} (x:Option (List α×β)):Nat:=match x with | none=>0 | some y=>y.1.length+1
def VQ {α β:Type} (x:Option (List α×β)) (i:Int):Option Nat:=match x with | none=>none | some y=>if i=(y.1.length:Int) then some y.1.length else none
def Xk {α β:Type} (x:Option (List α×β)) (n:Nat):Option β:=match x with | none=>none | some y=>if n=y.1.length then some y.2 else none
def TE {α β γ:Type} (x:Option (List α×β)) (e:γ):Option (List α×γ):=match x with | none=>none | some y=>some (y.1,e)
section
variable {R:Type}
def ow (k:IntKind) (x:Int):D:= .v (.int k) x
def bR (b:Bool):D:= .v .bool b
def NT (l:List UInt8):D:= .v .str l
def EJ (op:BinOp) (k:IntKind) (a b:Int) (kk:D→Option R):Option R:=
 match op with
 | .add=>kk (ow k (k.wrap (a+b)))
 | .sub=>kk (ow k (k.wrap (a - b)))
 | .mul=>kk (ow k (k.wrap (a*b)))
 | .quo=>(nz b (k.wrap (a.tdiv b))).bind fun x=>kk (ow k x)
 | .rem=>(nz b (a.tmod b)).bind fun x=>kk (ow k x)
 | .lss=>kk (bR (decide (a<b)))
 | .leq=>kk (bR (decide (a≤b)))
 | .gtr=>kk (bR (decide (b<a)))
 | .geq=>kk (bR (decide (b≤a)))
 | .eql=>kk (bR (decide (a=b)))
 | .neq=>kk (bR (decide (a≠b)))
 | .and=>kk (ow k (bits .and k a b))
 | .or=>kk (ow k (bits .or k a b))
 | .xor=>kk (ow k (bits .xor k a b))
 | .andNot=>kk (ow k (bits .andNot k a b))
 | _=>none
def MQ (tb:Bool) (op:BinOp) (x y:D) (kk:D→Option R):Option R:=
 match op,x,y with
 | .shl, .v (.int k) a, .v (.int _) b=>(nn b (k.wrap (a*2^(min b.toNat k.bits)))).bind fun x=>kk (ow k x)
 | .shr, .v (.int k) a, .v (.int _) b=>(nn b (a.fdiv (2^(min b.toNat k.bits)))).bind fun x=>kk (ow k x)
 | op, .v (.int k) a, .v (.int k') b=>if k=k' then EJ op k a b kk else none
 | .eql, .v .str a, .v .str b=>kk (bR (decide ((a:List UInt8)=b)))
 | .neq, .v .str a, .v .str b=>kk (bR (decide ((a:List UInt8)≠b)))
 | .add, .v .str a, .v .str b=>(cat a b).bind fun x=>kk (NT x)
 | .eql, .v .bool a, .v .bool b=>bif tb then kk (bR (decide ((a:Bool)=b))) else none
 | .neq, .v .bool a, .v .bool b=>bif tb then kk (bR (decide ((a:Bool)≠b))) else none
 | _,_,_=>none
def UH (op:UnOp) (x:D) (kk:D→Option R):Option R:=
 match op,x with
 | .not, .v .bool b=>kk (bR (!b))
 | .neg, .v (.int k) a=>kk (ow k (k.wrap (0 - a)))
 | _,_=>none
def Fg (c x y:D) (kk:D→Option R):Option R:=
 match c,x,y with
 | .v .bool b, .v .bool x, .v .bool y=>kk (bR (bif b then x else y))
 | .v .bool b, .v t x, .EF=>bif b then kk (.v t x) else none
 | .v .bool b, .EF, .v t y=>bif b then none else kk (.v t y)
 | _,_,_=>none
def aI:(rs:List Ty)→ai rs→List Dn
 | [],_=>[]
 | [a],x=>[⟨a,x⟩]
 | a::b::r,x=>⟨a,x.1⟩::aI (b::r) x.2
def M4:List Dn→D
 | [⟨t,x⟩]=> .v t x
 | l=> .BQ l
def LD:(t:Ty)→t.den→t.den→Bool
 | .int _,a,b=>decide ((a:Int)=b)
 | .bool,a,b=>decide ((a:Bool)=b)
 | .str,a,b=>decide ((a:List UInt8)=b)
 | .unit,_,_=>true
 | .st t,a,b=>LD t a b
 | .pr x y,a,b=>bif LD x a.1 b.1 then LD y a.2 b.2 else false
 | _,_,_=>false
def TJ (og:List (Nat×HV)) (tx:Nat) (t:Ty) (a:t.den) (dy:D):Option Bool:=match look og tx,dy with
 | some ⟨.st t',_,n+1⟩, .v (.st t'') b=>match J8 t' with
  | some (.int k)=>if t'=t then (if h:t=fB (.int k) (n+1) then (if h2:t''=fB (.int k) (n+1) then some (decide (kD (.int k) (n+1) (h▸a:(fB (.int k) (n+1)).den)=kD (.int k) (n+1) (h2▸b:(fB (.int k) (n+1)).den))) else none) else none) else none
  | _=>none
 | _,_=>none
def Q4 (c:Ctx) (tx:Nat) (t:Ty) (a:t.den) (dy:D):Option Bool:=match look c.eqs tx with
 | some t'=>match dy with
  | .v (.st t'') b=>if t'=t then if h:t''=t then some (LD t a (ma h b)) else none else none
  | _=>none
 | none=>TJ c.ty tx t a dy
def Ty.cp:Ty→Ty
 | .mr el t=> .dead el t
 | .st t=> .st t.cp
 | .pr a b=> .pr a.cp b.cp
 | t=>t.er
def J2:(t t':Ty)→t.den→Option t'.den
 | .st a, .st b,x=>J2 a b x
 | .pr a b, .pr a' b',x=>match J2 a a' x.1,J2 b b' x.2 with | some y,some z=>some (y,z) | _,_=>none
 | .mr _ _, .dead _ _,_=>some ()
 | t,t',x=>coe t t' x
def XA {R:Type}:(t:Ty)→t.den→(D→Option R)→Option R
 | .st a,y,kk=>match J2 a a.cp y with | some y'=>kk (.v (.st a.cp) y') | none=>none
 | _,_,_=>none
def FD (c:Ctx) (S:St) (tid:Nat) (kk:D→Option R):D→Option R
 | .ref j p off=>match S.ED j p off,look c.ty tid with
  | some ⟨.mr el t,_⟩,some i=>if (Ty.mr el t).er=i.ty then kk (.bO j p off) else none
  | some ⟨.ml _ a _,_⟩,some i=>if Ty.sl a=i.ty then kk (.bO j p off) else none
  | some ⟨t,y⟩,some i=>if t.er=i.ty then bif t.top then match coe t t.er y with | some y'=>kk (.v t.er y') | none=>XA t y kk else none else none
  | _,_=>none
 | .Ca t x=>match look c.ty tid with
  | some i=>if t=i.ty then bif t.top then kk (.v t x) else none else none
  | none=>none
 | .sJ j p off=>match look c.ty tid with
  | some ⟨.ptr _,_,_⟩=>kk (.ref j p off)
  | _=>none
 | .xZ j p off n sz q qo=>match S.at j p off,look c.ty tid with
  | some ⟨.mr _ t,l⟩,some i=>bif Nat.beq t.size sz && Nat.beq (aH t q) qo then (nth l n).bind fun e=>match aU t q e with
    | some ⟨s,y⟩=>if s=i.ty then bif s.top then kk (.v s y) else none else none
    | none=>none
    else none
  | some ⟨.ml _ _ t,x⟩,some i=>bif Nat.beq t.size sz && Nat.beq (aH t q) qo then (Xk x n).bind fun e=>match aU t q e with
    | some ⟨s,y⟩=>if s.er=i.ty then bif s.top then (match coe s s.er y with | some y'=>kk (.v s.er y') | none=>none) else none else none
    | none=>none
    else none
  | _,_=>none
 | .xV j p off m sz q qo=>match S.ED j p off,look c.ty tid with
  | some ⟨.st t,y⟩,some i=>match J8 t with
   | some a=>bif Nat.beq a.size sz && Nat.beq (aH a q) qo then (match Xu t a y with
    | some l=>m.bind fun n=>(nth l n).bind fun e=>match aU a q e with
     | some ⟨s,z⟩=>if s=i.ty then bif s.top then kk (.v s z) else none else none
     | none=>none
    | none=>none)
    else none
   | none=>none
  | _,_=>none
 | _=>none
def oz (S:St) (t:Ty):List (Nat×Operand)→t.den→Option t.den
 | [],z=>some z
 | (f,x)::r,z=>bif Nat.blt f (nf t) then match aU (.st t) (.i::aD t f) z with
  | some ⟨s,_⟩=>match gy s (S.get x) with
   | some y=>match bN (.st t) (.i::aD t f) ⟨s,y⟩ z with
    | some ⟨t',z'⟩=>if h:t'= .st t then oz S t r (h▸z':(Ty.st t).den) else none
    | none=>none
   | none=>none
  | none=>none
  else none
def Gm (t:Ty) (l:List (Nat×Operand)):Bool:=l.all fun p=>match bX t (aD t p.1) with | some s=>decide (s=s.er) | none=>false
def vg (u:Ty):St→List (Nat×Operand)→u.den→Option (u.den×St)
 | S,[],z=>some (z,S)
 | S,(f,x)::r,z=>bif Nat.blt f (nf u) then match aU (.st u) (.i::aD u f) z with
  | some ⟨s,_⟩=>if s=s.er then match gy s (S.get x) with
    | some y=>match bN (.st u) (.i::aD u f) ⟨s,y⟩ z with
     | some ⟨t',z'⟩=>if h:t'= .st u then vg u S r (h▸z':(Ty.st u).den) else none
     | none=>none
    | none=>none
   else match S.raw x with
    | .bO j p o=>match S.takeA j p o with
     | some (y,S1)=>if y.1.er=s.er then match bN (.st u) (.i::aD u f) y z with
       | some ⟨t',z'⟩=>if h:t'= .st u then vg u S1 r (h▸z':(Ty.st u).den) else none
       | none=>none
      else none
     | none=>none
    | .v t y=>if t.er=s.er then match bN (.st u) (.i::aD u f) ⟨t,y⟩ z with
      | some ⟨t',z'⟩=>if h:t'= .st u then vg u (S.strip x) r (h▸z':(Ty.st u).den) else none
      | none=>none
     else none
    | _=>none
  | none=>none
  else none
def Eb (S:St) (t:Ty):Nat→List (Nat×Operand)→Option (List t.den)
 | _,[]=>some []
 | i,(j,x)::r=>bif Nat.beq i j then match gy t (S.get x),Eb S t (i+1) r with
   | some y,some l=>some (y::l)
   | _,_=>none
  else none
def Ak (l:List UInt8):List Int:=l.map fun b=>(b.toNat:Int)
def encR (a:Int):List UInt8:=(Utf8.encode a).data.toList
def yz (l:List Int):List UInt8:=l.map fun x=>UInt8.ofNat x.toNat
def made {α:Type} (sz:Nat) (z:α) (a b:Int):Option (List α):=if 0≤a∧a=b∧b*sz≤140737488355328 then some (List.replicate a.toNat z) else none
def Pt {α:Type} (sz:Nat) (b:Int):Option (List α):=if 0≤b∧b*sz≤140737488355328 then some ([]:List α) else none
def Tn (c:Ctx) (o:Oper):Operand→Bool
 | .const (.int _ z)=>match o.dst with
  | some d=>match look c.own d with
   | some (.mr _ _)=>false
   | _=>decide (z=0)
  | none=>false
 | _=>false
def bnd (S:St) (d:Int):Option Operand→Option Int
 | none=>some d
 | some y=>match S.get y with | .v (.int _) a=>some a | _=>none
def Av (c:Ctx) (tx:Nat) (S:St) (x:Operand) (lo hi:Option Operand) (kk:D→Option R):Option R:=match S.get x with
 | .v .str l=>bif iy c tx .str then match bnd S 0 lo,bnd S (List.length l:Int) hi with
  | some a,some b=>(sub l a b).bind fun r=>kk (NT r)
  | _,_=>none
  else none
 | .v (.sl t) l=>bif iy c tx (.sl t) then match bnd S 0 lo,bnd S (List.length l:Int) hi with
  | some a,some b=>(sub l a b).bind fun r=>kk (.v (.sl t) r)
  | _,_=>none
  else none
 | .ref j p off=>match lo,look c.ty tx with
  | none,some ⟨.st _,_,n+1⟩=>match bnd S ((n+1:Nat):Int) hi with
   | some b=>(lG (n+2) b).bind fun k=>kk (.NQ j p off k (n+1))
   | none=>none
  | _,_=>none
 | _=>none
def full (a b:Int) (n:Nat):Option Unit:=if a=n∧b=n then some () else none
def slice3 (c:Ctx) (tx:Nat) (S:St) (x:Operand) (lo hi:Option Operand) (mx:Operand) (kk:D→Option R):Option R:=match lo,hi,S.get x with
 | none,some h, .v (.sl t) l=>match S.get h,S.get mx with
  | .v (.int _) a, .v (.int _) b=>bif iy c tx (.sl t) then (full a b (List.length l)).bind fun _=>kk (.v (.fl t) l) else none
  | _,_=>none
 | _,_,_=>none
def Mv (c:Ctx) (tx:Nat) (S:St) (kk:D→Option R):D→Option R
 | .v (.sl t) l=>bif iy c tx (.sl t) then kk (ow .i64 (List.length l)) else none
 | .v .str l=>bif iy c tx .str then kk (ow .i64 (List.length l)) else none
 | .uW=>match look c.ty tx with | some ⟨.sl _,_,_⟩=>kk (ow .i64 0) | _=>none
 | .bO j p off=>match S.at j p off with
  | some ⟨.mr _ t,l⟩=>bif iy c tx (.sl t) then kk (ow .i64 (List.length l)) else none
  | some ⟨.ml _ a _,x⟩=>bif iy c tx (.sl a) then kk (ow .i64 (Jy x:Nat)) else none
  | _=>none
 | _=>none
def El:(t:Ty)→t.den→Option t.er.den
 | .int _,x=>some x
 | .bool,x=>some x
 | .str,x=>some x
 | .unit,x=>some x
 | .it,_=>some ()
 | .xX,x=>some x
 | .dead _ _,_=>none
 | .sl t,x=>some (x:List t.den)
 | .rw _ t,x=>some (x:List t.den)
 | .mr _ t,x=>some (x:List t.den)
 | .ptr _,x=>some x
 | .eb _ t,x=>some (x:Option t.den)
 | .on t,x=>some (x:List t.den)
 | .fl t,x=>some (x:List t.den)
 | .op t,x=>some (x:Option t.den)
 | .bx _ _,_=>some ()
 | .bo _ t,x=>some (Option.isSome (x:Option t.den))
 | .bn,x=>some x
 | .tr,x=>some x
 | .ml _ a t,x=>match (x:Option (List a.den×t.den)) with
  | none=>some ([]:List a.den)
  | some y=>if h:t.er=a then (match El t y.2 with | some e=>some (y.1++[ma h e]) | none=>none) else none
 | .st t,x=>El t x
 | .pr a b,x=>match El a x.1,El b x.2 with | some y,some z=>some (y,z) | _,_=>none
def Lb (t:Ty):Option Dn→Option t.den
 | some ⟨t',y⟩=>if h:t'.er=t then (match El t' y with | some z=>some (ma h z) | none=>none) else none
 | none=>none
def Ty.flat:Ty→Bool
 | .int _=>true | .bool=>true | .str=>true | .unit=>true | .st t=>t.flat | .pr a b=>a.flat && b.flat | _=>false
def Wh (t1:Ty) (k n:Nat):Option Dn→Option (List t1.den)
 | some ⟨.st t,y⟩=>match Xu t t1 y with
  | some l=>bif t1.flat && Nat.beq n (nf t) then some (l.take k) else none
  | none=>none
 | _=>none
def KD (S:St) (t:Ty) (x:Operand):Option t.den:=match t,S.get x with
 | .ptr t1, .ref j p o=>Lb t1 (S.ED j p o)
 | .sl t1, .bO j p o=>Lb (.sl t1) (S.at j p o)
 | .sl t1, .NQ j p o k n=>Wh t1 k n (S.ED j p o)
 | .op a, .v (.ptr a') y=>if h:a'=a then some (some (ma h y):Option a.den) else none
 | t,d=>gy t d
def xR (S:St):(ps:List fq)→List Operand→Option (ai (ps.map fq.ty))
 | [],[]=>some ()
 | [p],[x]=>KD S p.ty x
 | p::b::r,x::xs=>match KD S p.ty x,xR S (b::r) xs with | some y,some z=>some (y,z) | _,_=>none
 | _,_=>none
def Ty.plain (t:Ty):Bool:=t.flat && t.top
def fq.DN:fq→Bool
 | .val t=>decide (t=t.er)
 | _=>false
def Entry.plain (e:Entry):Bool:=e.ps.all fq.DN && e.rs.all Ty.plain
def UG (S:St) (i:Ip) (args:List Operand) (kk:D→Option R):Option R:=match args with
 | [x]=>match S.get x with
  | .ref j _ o'=>match look S.az j with
   | some ob=>if ob.tid=some i.tid then bif Nat.beq o' (aH i.t i.p0) then (if h:ob.t=i.t then (i.f (ma h ob.x)).bind fun m=>kk (.xV j i.p i.o m i.sz [] 0) else none) else none else none
   | none=>none
  | _=>none
 | _=>none
def IM (S:St):List Operand→Option (List (Bool×Nat×List Dir×Nat))
 | []=>some []
 | x::r=>match S.get x,IM S r with
  | .ref j p o,some l=>some ((false,j,p,o)::l)
  | .sJ j p o,some l=>some ((true,j,p,o)::l)
  | _,_=>none
def Ww:Operand→Bool
 | .const _=>true
 | _=>false
def D5 (d:D) (kk:D→Option R):Option R:=match d with
 | .und=>none
 | d=>kk d
def fF (c:Ctx) (o:Op) (S:St) (kk:D→Option R):Option R:=
 match o with
 | .move x=>D5 (S.get x) kk
 | .assign x=>D5 (S.get x) kk
 | .pick a x y=>Fg (S.get a) (S.get x) (S.get y) kk
 | .nilCheck x=>match S.get x with
  | .ref j p off=>kk (.ref j p off)
  | .Ca t y=>kk (.Ca t y)
  | .xZ j p off n z q qo=>kk (.xZ j p off n z q qo)
  | .xV j p off m z q qo=>m.bind fun n=>kk (.xV j p off (some n) z q qo)
  | .v (.ptr t) y=>kk (.v (.ptr t) y)
  | .v (.op t) y=>(y:Option t.den).bind fun z=>kk (.Ca t z)
  | .sJ j p o=>kk (.sJ j p o)
  | .zR g n l=>kk (.zR g n l)
  | _=>none
 | .makeFunc (.func g) a b=>match IM S a.toList,IM S b.toList with
  | some la,some lb=>kk (.zR g la.length (la++lb))
  | _,_=>none
 | .binOp op tx x y _=>match op,y,S.get x with
  | .eql, .const .nilIface, .v (.eb _ _) a=>match look c.ty tx with | some ⟨.eb _ _,_,_⟩=>kk (bR (Option.isNone a)) | _=>none
  | .neq, .const .nilIface, .v (.eb _ _) a=>match look c.ty tx with | some ⟨.eb _ _,_,_⟩=>kk (bR (Option.isSome a)) | _=>none
  | .eql, .const .nilIface, .v .tr a=>match look c.ty tx with | some ⟨.tr,_,_⟩=>kk (bR (Er.isNil a)) | _=>none
  | .neq, .const .nilIface, .v .tr a=>match look c.ty tx with | some ⟨.tr,_,_⟩=>kk (bR (!Er.isNil a)) | _=>none
  | .eql, .const (.pointer none), .v .bn a=>match look c.ty tx with | some ⟨.ptr _,_,_⟩=>kk (bR (!(a:Bool))) | _=>none
  | .neq, .const (.pointer none), .v .bn a=>match look c.ty tx with | some ⟨.ptr _,_,_⟩=>kk (bR a) | _=>none
  | .eql, .const (.pointer none), .v (.op _) a=>match look c.ty tx with | some ⟨.ptr _,_,_⟩=>kk (bR (Option.isNone a)) | some ⟨.op _,_,_⟩=>kk (bR (Option.isNone a)) | _=>none
  | .neq, .const (.pointer none), .v (.op _) a=>match look c.ty tx with | some ⟨.ptr _,_,_⟩=>kk (bR (Option.isSome a)) | some ⟨.op _,_,_⟩=>kk (bR (Option.isSome a)) | _=>none
  | .eql, .const (.pointer none), .xV _ _ _ m _ _ _=>match look c.ty tx with | some ⟨.ptr _,_,_⟩=>kk (bR (Option.isNone m)) | _=>none
  | .neq, .const (.pointer none), .xV _ _ _ m _ _ _=>match look c.ty tx with | some ⟨.ptr _,_,_⟩=>kk (bR (Option.isSome m)) | _=>none
  | .eql, .const (.pointer none), .ref _ _ _=>match look c.ty tx with | some ⟨.ptr _,_,_⟩=>kk (bR false) | _=>none
  | .neq, .const (.pointer none), .ref _ _ _=>match look c.ty tx with | some ⟨.ptr _,_,_⟩=>kk (bR true) | _=>none
  | .eql, .const (.slice none 0 0), .v (.on _) l=>match look c.ty tx with | some ⟨.sl _,_,_⟩=>kk (bR (List.isEmpty l)) | _=>none
  | .eql, .const (.pointer none), .Ca _ _=>match look c.ty tx with | some ⟨.ptr _,_,_⟩=>kk (bR false) | _=>none
  | .neq, .const (.pointer none), .Ca _ _=>match look c.ty tx with | some ⟨.ptr _,_,_⟩=>kk (bR true) | _=>none
  | .eql, .const (.pointer none), .v (.ptr _) _=>match look c.ty tx with | some ⟨.ptr _,_,_⟩=>kk (bR false) | _=>none
  | .neq, .const (.pointer none), .v (.ptr _) _=>match look c.ty tx with | some ⟨.ptr _,_,_⟩=>kk (bR true) | _=>none
  | .eql,y, .v (.st t) a=>(Q4 c tx t a (S.get y)).bind fun b=>kk (bR b)
  | .neq,y, .v (.st t) a=>(Q4 c tx t a (S.get y)).bind fun b=>kk (bR (!b))
  | op,y,dx=>MQ (iy c tx .bool) op dx (S.get y) kk
 | .unOp op _ x=>UH op (S.get x) kk
 | .convert s t x=>match look c.ty s,look c.ty t,S.get x with
  | some _,some ⟨.int k',_,_⟩, .v (.int _) a=>kk (ow k' (k'.wrap a))
  | some ⟨.sl (.int .u8),_,_⟩,some ⟨.str,_,_⟩, .v (.sl (.int .u8)) l=>kk (NT (yz l))
  | some _,some ⟨.str,_,_⟩, .v (.int _) a=>kk (NT (encR a))
  | _,_,_=>none
 | .extract x i=>match S.get x with
  | .BQ l=>match l[i]? with
   | some ⟨t,y⟩=>bif t.top then match coe t t.er y with | some y'=>kk (.v t.er y') | none=>none else none
   | none=>none
  | _=>none
 | .load t a=>FD c S t kk (S.get a)
 | .build t parts=>match look c.ty t with
  | some ⟨.st t',_,_⟩=>match zero t' with
   | some z=>match oz S t' parts.toList z with | some y=>kk (.v (.st t') y) | none=>none
   | none=>none
  | _=>none
 | .slice tx x lo hi mx=>match mx with
  | none=>Av c tx S x lo hi kk
  | some m=>slice3 c tx S x lo hi m kk
 | .fieldAddr s x f=>match look c.ty s with
  | some ⟨.st t,_,0⟩=>bif Nat.blt f (nf t) then match S.get x with
   | .ref j p off=>kk (.ref j (p++ .i::aD t f) (off+aH (.st t) (.i::aD t f)))
   | .Ca t' y=>if t'= .st t then match aU t' (.i::aD t f) y with | some ⟨s,z⟩=>kk (.Ca s z) | none=>none else none
   | .v (.ptr t') y=>if t'= .st t then match aU t' (.i::aD t f) y with | some ⟨s,z⟩=>kk (.Ca s z) | none=>none else none
   | .v (.op t') y=>if t'= .st t then (y:Option t'.den).bind fun y=>match aU t' (.i::aD t f) y with | some ⟨s,z⟩=>kk (.Ca s z) | none=>none else none
   | .xZ j p off n z q qo=>kk (.xZ j p off n z (q++ .i::aD t f) (qo+aH (.st t) (.i::aD t f)))
   | .xV j p off m z q qo=>m.bind fun n=>kk (.xV j p off (some n) z (q++ .i::aD t f) (qo+aH (.st t) (.i::aD t f)))
   | _=>none
   else none
  | _=>none
 | .field s x f=>match look c.ty s,S.get x with
  | some ⟨.st t,_,0⟩, .v (.st t') y=>if t'=t then bif Nat.blt f (nf t') then match aU t' (aD t' f) y with
    | some ⟨u,z⟩=>bif u.top then kk (.v u z) else none
    | none=>none
   else none else none
  | _,_=>none
 | .indexAddr tx x x2=>match S.get x2 with
  | .v (.int _) i=>match S.get x with
   | .v (.sl t) l=>bif iy c tx (.sl t) then (idx l i).bind fun e=>kk (.Ca t e) else none
   | .bO j p off=>match S.at j p off with
    | some ⟨.mr _ t,l⟩=>bif iy c tx (.sl t) then (lG (List.length l) i).bind fun n=>kk (.xZ j p off n t.size [] 0) else none
    | some ⟨.ml _ a t,x⟩=>bif iy c tx (.sl a) then (VQ x i).bind fun n=>kk (.xZ j p off n t.size [] 0) else none
    | _=>none
   | .Ca (.st t) y=>match look c.ty tx with
    | some ⟨.st t',_,n+1⟩=>match J8 t' with
     | some a=>if h:t=fB a (n+1) then if t'=t then (idx (kD a (n+1) (ma h y)) i).bind fun e=>kk (.Ca a e) else none else none
     | none=>none
    | _=>none
   | .ref j p off=>match look c.ty tx with
    | some ⟨.st t,_,_+1⟩=>bif Ww x2 then (bif decide (0≤i) && Nat.blt i.toNat (nf t) then kk (.ref j (p++ .i::aD t i.toNat) (off+aH (.st t) (.i::aD t i.toNat))) else none) else
     (match J8 t with
     | some a=>(lG (nf t) i).bind fun n=>kk (.xV j p off (some n) a.size [] 0)
     | none=>none)
    | _=>none
   | _=>none
  | _=>none
 | .index tx x i=>match S.get x,S.get i with
  | .v .str l, .v (.int _) i=>bif iy c tx .str then (idx l i).bind fun b=>kk (ow .u8 (b.toNat:Int)) else none
  | .v (.st t) y, .v (.int _) i=>match look c.ty tx with
   | some ⟨.st t',_,n+1⟩=>match J8 t' with
    | some a=>bif a.top then (if h:t=fB a (n+1) then if t'=t then (idx (kD a (n+1) (h▸y:(fB a (n+1)).den)) i).bind fun e=>kk (.v a e) else none else none) else none
    | none=>none
   | _=>none
  | _,_=>none
 | .typeAssert x _ a true=>match S.get x,look c.ty a with
  | .v .tr e,some ⟨.ptr t',_,_⟩=>(XD a t' e).bind fun y=>kk (.BQ [⟨.op t',y⟩,⟨.bool,Option.isSome y⟩])
  | .v .tr e,some ⟨.tr,_,_⟩=>match look c.im a with
   | some l=>(X7 l e).bind fun b=>kk (.BQ [⟨.tr,bif b then e else Er.nil⟩,⟨.bool,b⟩])
   | none=>none
  | .v (.eb te t) y,some ⟨.ptr t',_,_⟩=>bif Nat.beq a te then (if t=t' then kk (.BQ [⟨.op t,(y:Option t.den)⟩,⟨.bool,Option.isSome y⟩]) else none) else kk (.BQ [⟨.op t',(none:Option t'.den)⟩,⟨.bool,false⟩])
  | .v (.eb te t) y,some ⟨.eb _ _,_,_⟩=>(bif Option.isSome y then none else some ()).bind fun _=>kk (.BQ [⟨.eb te t,(none:Option t.den)⟩,⟨.bool,false⟩])
  | _,_=>none
 | .makeInterface t x=>match look c.ty t,S.get x with
  | some ⟨.st t',_,0⟩, .v (.st t'') y=>if t''=t' then (Dr t true [] t'' y).bind fun e=>kk (.v .tr e) else none
  | some ⟨.ptr t',_,_⟩, .v (.ptr t'') y=>if t''=t' then kk (.v (.eb t t'') (some y:Option t''.den)) else none
  | some ⟨.ptr _,_,_⟩, .ref j p o=>kk (.MK t j p o)
  | _,_=>none
 | .call cl=>match cl.callee with
  | .builtin .len=>match cl.args.toList,cl.argTypes.toList with
   | [x],[t]=>Mv c t S kk (S.get x)
   | _,_=>none
  | .builtin .max=>match cl.args.toList with
   | [x,y]=>match S.get x,S.get y with
    | .v (.int k1) a, .v (.int k2) b=>if k1=k2 then kk (ow k1 (max (a:Int) b)) else none
    | _,_=>none
   | _=>none
  | .builtin .min=>match cl.args.toList with
   | [x,y]=>match S.get x,S.get y with
    | .v (.int k1) a, .v (.int k2) b=>if k1=k2 then kk (ow k1 (min (a:Int) b)) else none
    | _,_=>none
   | _=>none
  | .value f=>match S.get f with
   | .fn f=>match look c.fn f with
    | some e=>bif e.plain then match xR S e.ps cl.args.toList with
      | some z=>(e.f z).bind fun r=>kk (M4 ((aI (e.rs++outs e.ps) r).take e.rs.length))
      | none=>none
     else none
    | none=>match look c.ip f with
     | some i=>bif i.t.flat then UG S i cl.args.toList kk else none
     | none=>none
   | _=>none
  | _=>none
 | _=>none
def out (c:Ctx) (o:Oper) (S:St) (x:D) (k:St→Option R):Option R:=match o.dst with
 | some d=>bif Nat.blt d c.n then k (S.put d x) else none
 | none=>k S
def xw (c:Ctx) (d:Nat) (ob:Ob) (x:D) (S:St) (k:St→Option R):Option R:=match look S.az d with
 | none=>bif Nat.blt d c.n then k ⟨aQ (oZ d S.env) d x,(d,ob)::S.az⟩ else none
 | some _=>none
def BB (c:Ctx) (d:Nat) (el:Nat) (t:Ty) (l:List t.den) (S:St) (k:St→Option R):Option R:=xw c d ⟨none, .mr el t,l⟩ (.bO d [] 0) S k
def Ke (c:Ctx) (o:Oper) (S:St) (t:Ty) (y:t.den) (k:St→Option R):Option R:=match t,y,o.dst with
 | .mr el a,l,some d=>match look c.own d with
  | some (.mr _ _)=>BB c d el a l S k
  | _=>out c o S (.v (.mr el a) l) k
 | t,y,_=>out c o S (.v t y) k
def Ht (c:Ctx) (o:Oper) (S:St) (t:Ty) (y:t.den) (k:St→Option R):Option R:=match t,y,o.dst with
 | .mr el a,l,some d=>match look c.own d with
  | some (.mr _ _)=>BB c d el a l S k
  | _=>bif mem d c.tk then out c o S (.v (.mr el a) l) k else out c o S (.v (.sl a) l) k
 | .bx id a,x,some d=>xw c d ⟨some id,a,x⟩ (.ref d [] 0) S k
 | t,y,_=>out c o S (.v t y) k
def BR (c:Ctx) (o:Oper) (S:St) (l:List Dn) (k:St→Option R):Option R:=match l with
 | [⟨t,y⟩]=>Ht c o S t y k
 | l=>out c o S (M4 l) k
def Yn {α:Type} (l:List α):Option (List α):=match l with | []=>none | x::r=>some (x::r)
def zl (c:Ctx) (o:Oper) (S:St) (x:Operand) (k:St→Option R):Option R:=match o.dst with
 | some d=>match S.raw x,look c.own d with
  | .uW,some (.mr el t)=>BB c d el t [] S k
  | .uW,some (.rw el t)=>out c o S (.v (.rw el t) ([]:List t.den)) k
  | .uW,some (.on t)=>out c o S (.v (.on t) ([]:List t.den)) k
  | .v (.sl t') y,some (.on t)=>if h:t'=t then (Yn (h▸y:List t.den)).bind fun z=>out c o S (.v (.on t) z) k else none
  | .v (.rw _ t') y,some (.on t)=>if h:t'=t then (Yn (h▸y:List t.den)).bind fun z=>out c o S (.v (.on t) z) k else none
  | .v t y,_=>Ke c o (S.strip x) t y k
  | .BQ l,_=>out c o (S.strip x) (.BQ l) k
  | .bO j p off,_=>out c o (S.strip x) (.bO j p off) k
  | _,_=>none
 | none=>none
def loadT (c:Ctx) (o:Oper) (S:St) (tid:Nat) (k:St→Option R):D→Option R
 | .xZ j p off n sz q qo=>match look S.az j,S.at j p off,look c.ty tid with
  | some ob,some ⟨.ml el a t,x⟩,some i=>bif Nat.beq t.size sz && Nat.beq (aH t q) qo then (Xk x n).bind fun e=>match aU t q e with
    | some ⟨s,y⟩=>if s.er=i.ty then bif s.top then (match coe s s.er y with
      | some y'=>match bN t q ⟨s.er,y'⟩ e with
       | some ⟨t',e'⟩=>match bN ob.t p ⟨.ml el a t',TE (x:Option (List a.den×t.den)) e'⟩ ob.x with
        | some z=>out c o ⟨S.env,aQ S.az j ⟨ob.tid,z.1,z.2⟩⟩ (.v s y) k
        | none=>none
       | none=>none
      | none=>none) else none else none
    | none=>none
   else none
  | _,_,_=>none
 | .ref j p off=>match S.ED j p off,look c.ty tid with
  | some ⟨t,y⟩,some i=>if t.er=i.ty then bif t.top then
     match coe t t.er y with
     | some y'=>match S.w9 j p off ⟨t.er,y'⟩ with
      | some S'=>out c o S' (.v t y) k
      | none=>none
     | none=>none
    else none
   else none
  | _,_=>none
 | _=>none
def sW (c:Ctx) (o:Oper) (S:St) (x:Operand) (i:Nat) (k:St→Option R):Option R:=match x with
 | .tmp s=>match look S.env s with
  | some (.BQ l)=>match l[i]? with
   | some ⟨t,y⟩=>bif t.top then match coe t t.er y with
     | some y'=>Ht c o (S.put s (.BQ (l.set i ⟨t.er,y'⟩))) t y k
     | none=>none
    else none
   | none=>none
  | _=>none
 | _=>none
def Jp:Ty→Option Dn
 | .dead el a=>some ⟨.mr el a,([]:List a.den)⟩
 | .sl a=>some ⟨.sl a,([]:List a.den)⟩
 | .rw el a=>some ⟨.rw el a,([]:List a.den)⟩
 | .mr el a=>some ⟨.mr el a,([]:List a.den)⟩
 | .ml el a t=>some ⟨.ml el a t,(none:Option (List a.den×t.den))⟩
 | _=>none
def FV (S:St) (j:Nat) (p:List Dir) (off:Nat) (y:Dn) (k:St→Option R):Option R:=match S.ED j p off,S.w9 j p off y with
 | some _,some S'=>k S'
 | _,_=>none
def valOf (S:St) (i:HV) (t0:Ty) (x:Operand):Option (Dn×St):=match S.raw x with
 | .uW=>match Jp t0 with | some y=>some (y,S) | none=>none
 | .v t y=>if t.er=i.ty then some (⟨t,y⟩,S.strip x) else none
 | d=>match gy i.ty d with | some y=>some (⟨i.ty,y⟩,S) | none=>none
def storeT (c:Ctx) (tid:Nat) (S:St) (x:Operand) (k:St→Option R):D→Option R
 | .ref j p off=>match S.raw x,look c.ty tid with
  | .bO j' p' o',some i=>match S.takeA j' p' o' with
   | some (y,S')=>if y.1.er=i.ty then FV S' j p off y k else none
   | none=>none
  | .ref j' p' o',some i=>match look S.az j,i.ty with
   | some ⟨some _, .bn,_⟩, .ptr _=>bif Nat.beq j j' then none else bif Nat.beq off 0 then k ⟨oZ j (Pq j (.sJ j' p' o') S.env),sO S.az j⟩ else none
   | _,_=>none
  | .uW,some i=>match S.ED j p off with
   | some ⟨t,_⟩=>if t.er=i.ty then match Jp t with | some y=>FV S j p off y k | none=>none else none
   | none=>none
  | .v t y,some i=>if t.er=i.ty then FV (S.strip x) j p off ⟨t,y⟩ k else none
  | d,some i=>match gy i.ty d with
   | some y=>FV S j p off ⟨i.ty,y⟩ k
   | none=>none
  | _,none=>none
 | .xZ j p off n sz q qo=>match look S.az j,look c.ty tid with
  | some ob,some i=>match S.at j p off,gy i.ty (S.get x) with
   | some ⟨.mr el t,l⟩,some y=>bif Nat.beq t.size sz && Nat.beq (aH t q) qo then (nth l n).bind fun e=>match bN t q ⟨i.ty,y⟩ e with
    | some ⟨t',e'⟩=>if h:t'=t then match bN ob.t p ⟨.mr el t,l.set n (h▸e')⟩ ob.x with
      | some z=>k ⟨S.env,aQ S.az j ⟨ob.tid,z.1,z.2⟩⟩
      | none=>none
     else none
    | none=>none
    else none
   | some ⟨.ml el a t,l⟩,_=>bif Nat.beq t.size sz && Nat.beq (aH t q) qo then (Xk l n).bind fun e=>match aU t q e with
    | some ⟨t0,_⟩=>if t0.er=i.ty then (match valOf S i t0 x with
     | some (y,S1)=>match bN t q y e with
      | some ⟨t',e'⟩=>match bN ob.t p ⟨.ml el a t',TE (l:Option (List a.den×t.den)) e'⟩ ob.x with
       | some z=>k ⟨S1.env,aQ S1.az j ⟨ob.tid,z.1,z.2⟩⟩
       | none=>none
      | none=>none
     | none=>none) else none
    | none=>none
    else none
   | _,_=>none
  | _,_=>none
 | .xV j p off m sz q qo=>match S.ED j p off,look c.ty tid with
  | some ⟨.st t,y⟩,some i=>match J8 t,gy i.ty (S.get x),look S.az j with
   | some a,some v,some ob=>bif Nat.beq a.size sz && Nat.beq (aH a q) qo && Rx j off (nf t*sz) S.env then (match Xu t a y with
    | some l=>m.bind fun n=>(nth l n).bind fun e=>match bN a q ⟨i.ty,v⟩ e with
     | some ⟨a',e'⟩=>if h:a'=a then (match YQ t a y n (ma h e') with
       | some y'=>match bN ob.t p ⟨.st t,(y':(Ty.st t).den)⟩ ob.x with
        | some z=>k ⟨S.env,aQ S.az j ⟨ob.tid,z.1,z.2⟩⟩
        | none=>none
       | none=>none)
      else none
     | none=>none
    | none=>none)
    else none
   | _,_,_=>none
  | _,_=>none
 | _=>none
def Mk (c:Ctx) (d tid:Nat) (S:St) (x:Operand) (k:St→Option R):Option R:=match look c.ty tid with
 | some i=>match S.raw x,look c.own d with
  | .ref j p o,_=>match i.ty with
   | .ptr _=>bif Nat.blt d c.n then k (S.put d (.sJ j p o)) else none
   | _=>none
  | .v ty y,some (.ptr t)=>if h:ty=t then if t=i.ty then bif Nat.blt d c.n then k (S.put d (.v (.ptr t) (ma h y:t.den))) else none else none else none
  | .v ty y,_=>if ty.er=i.ty then xw c d ⟨some tid,ty,y⟩ (.ref d [] 0) (S.strip x) k else none
  | .uW,some ty=>if ty.er=i.ty then match Jp ty with | some y=>xw c d ⟨some tid,y.1,y.2⟩ (.ref d [] 0) S k | none=>none else none
  | e,_=>match gy i.ty e with | some y=>xw c d ⟨some tid,i.ty,y⟩ (.ref d [] 0) S k | none=>none
 | none=>none
def iH {a:Ty}:(r:List Ty)→a.den→ai r→ai (a::r)
 | [],x,_=>x
 | _::_,x,y=>(x,y)
def uO {a:Ty}:(r:List Ty)→ai (a::r)→a.den
 | [],x=>x
 | _::_,x=>x.1
def iD {a:Ty}:(r:List Ty)→ai (a::r)→ai r
 | [],_=>()
 | _::_,x=>x.2
def xL (S:St):List fq→List Operand→Option (List D×St)
 | [],[]=>some ([],S)
 | .val t::r,x::xs=>match S.QZ t x with
  | some (d,S1)=>match xL S1 r xs with | some (ds,S2)=>some (d::ds,S2) | none=>none
  | none=>none
 | .Bv _::r,x::xs=>match S.raw x with
  | .fn g=>match xL S r xs with | some (ds,S2)=>some (.fn g::ds,S2) | none=>none
  | _=>none
 | .obj _ _ _ _ m::r,x::xs=>match m.of (S.raw x) with
  | some (j,p,o)=>match xL S r xs with | some (ds,S2)=>some (m.d j p o::ds,S2) | none=>none
  | none=>none
 | _,_=>none
def vW (S:St):(ps:List fq)→List D→Option (ai (ps.map fq.ty)×List (Nat×Nat))
 | [],[]=>some ((),[])
 | .val t::r,d::ds=>match gy t d,vW S r ds with
  | some y,some (z,js)=>some (iH _ y z,js)
  | _,_=>none
 | .Bv g::r,d::ds=>match d,vW S r ds with
  | .fn g',some (z,js)=>bif Nat.beq g g' then some (iH (a:= .unit) _ () z,js) else none
  | _,_=>none
 | .obj tid t _ p m::r,d::ds=>match m.of d,vW S r ds with
  | some (j,_,o),some (z,js)=>match look S.az j with
   | some ob=>if ob.tid=some tid then match coe ob.t t ob.x with
     | some y=>bif mem j (js.map (·.1)) then none else bif Nat.beq o (aH t p) then some (iH _ y z,(j,tid)::js) else none
     | none=>none
    else none
   | none=>none
  | _,_=>none
 | _,_=>none
def PE (S:St) (ps:List fq) (xs:List Operand):Option (ai (ps.map fq.ty)×List (Nat×Nat)×St):=match xL S ps xs with
 | some (ds,S1)=>match vW S1 ps ds with | some (z,js)=>some (z,js,S1) | none=>none
 | none=>none
def UC:Bool×Nat×List Dir×Nat→D
 | (false,j,p,o)=> .ref j p o
 | (true,j,p,o)=> .sJ j p o
def P5 (S:St) (ps:List fq) (n:Nat) (l:List (Bool×Nat×List Dir×Nat)) (xs:List Operand):Option (ai (ps.map fq.ty)×List (Nat×Nat)×St):=match xL S ((ps.drop n).take xs.length) xs with
 | some (ds,S1)=>match vW S1 ps ((l.take n).map UC++(ds++(l.drop n).map UC)) with | some (z,js)=>some (z,js,S1) | none=>none
 | none=>none
def xP (j:Nat):List (Nat×D)→List (Nat×D)
 | []=>[]
 | (k, .bO j' p o')::r=>(k,bif Nat.beq j j' then .und else .bO j' p o')::xP j r
 | (k, .xZ j' p o' m z q qo)::r=>(k,bif Nat.beq j j' then .und else .xZ j' p o' m z q qo)::xP j r
 | (k,d)::r=>(k,d)::xP j r
def zH (S:St):List (Nat×Nat)→List Dn→Option St
 | [],[]=>some S
 | (j,tid)::js,y::ys=>zH ⟨xP j S.env,aQ S.az j ⟨some tid,y.1,y.2⟩⟩ js ys
 | _,_=>none
def sliceT (c:Ctx) (tx:Nat) (o:Oper) (S:St) (x:Operand) (lo hi:Option Operand) (k:St→Option R):Option R:=match S.raw x,o.dst with
 | .bO j p off,some d=>bif mem d c.tk then match lo,S.takeA j p off with
   | none,some (⟨.mr el t,l⟩,S')=>bif iy c tx (.sl t) then match bnd S (List.length l:Int) hi with
    | some b=>(sub l 0 b).bind fun r=>BB c d el t r S' k
    | none=>none
    else none
   | _,_=>none
  else match S.open_ j p off with
   | some (⟨.sl t,l⟩,S')=>bif iy c tx (.sl t) then match bnd S 0 lo,bnd S (List.length l:Int) hi with
    | some a,some b=>(sub l a b).bind fun r=>out c o S' (.v (.sl t) r) k
    | _,_=>none
    else none
   | _=>none
 | _,_=>none
def J6 (c:Ctx) (t2:Nat) (S:St) (t:Ty) (y:Operand):Option (List t.den):=match S.get y with
 | .v .str m=>bif iy c t2 .str then match t with | .int .u8=>some (Ak m) | _=>none else none
 | .bO j p off=>match S.at j p off with
  | some ⟨.mr _ t',m⟩=>if h:t'=t then (bif iy c t2 (.sl t) then some (h▸m:List t.den) else none) else none
  | _=>none
 | d=>bif iy c t2 (.sl t) then (gy (.sl t) d:Option (List t.den)) else none
def wW (c:Ctx) (o:Oper) (S:St) (x y:Operand) (tid t2:Nat) (k:St→Option R):Option R:=match look c.ty tid with
 | some ⟨.sl t,el,sz⟩=>match J6 c t2 S t y with
  | none=>none
  | some m=>match S.raw x with
   | .v (.rw el' t') l=>if h:t'=t then (bif Nat.beq el' el then (app sz (h▸l:List t.den) m).bind fun r=>out c o (S.strip x) (.v (.rw el t) r) k else none) else none
   | .v (.fl t') l=>if h:t'=t then (Uu sz (h▸l:List t.den) m).bind fun r=>out c o S (.v (.rw el t) r) k else none
   | .uW=>match o.dst with
    | some d=>match look c.own d with
     | some (.mr _ _)=>(app sz ([]:List t.den) m).bind fun r=>BB c d el t r S k
     | _=>(app sz ([]:List t.den) m).bind fun r=>out c o S (.v (.rw el t) r) k
    | none=>none
   | .bO j p off=>match o.dst,S.takeA j p off with
    | some d,some (⟨.mr el' t',l⟩,S')=>if h:t'=t then (bif Nat.beq el' el then (app sz (h▸l:List t.den) m).bind fun r=>BB c d el t r S' k else none) else none
    | _,_=>none
   | _=>none
 | _=>none
def over {α:Type} (l m:List α):List α:=m.take l.length++l.drop m.length
def EZ (c:Ctx) (o:Oper) (S:St) (x y:Operand) (tid:Nat) (k:St→Option R):Option R:=match S.raw x,look c.ty tid with
 | .bO j p off,some ⟨.sl t,_,_⟩=>match look S.az j,S.at j p off,gy (.sl t) (S.get y) with
  | some ob,some ⟨.mr el t',l⟩,some m=>if h:t'=t then bif Nat.beq t.size 1 then match bN ob.t p ⟨.mr el t',over l (h▸m:List t'.den)⟩ ob.x with
    | some z=>out c o ⟨S.env,aQ S.az j ⟨ob.tid,z.1,z.2⟩⟩ (ow .i64 ((min (List.length (m:List t.den)) (List.length l):Nat):Int)) k
    | none=>none
    else none
   else none
  | _,_,_=>none
 | _,_=>none
def z_ (c:Ctx) (o:Oper) (S:St) (el:Nat) (t:Ty) (l:List t.den) (k:St→Option R):Option R:=match o.dst with
 | some d=>match look c.own d with
  | some (.mr _ _)=>BB c d el t l S k
  | _=>out c o S (.v (.rw el t) l) k
 | none=>out c o S (.v (.rw el t) l) k
def C8 (c:Ctx) (o:Oper) (S:St) (t:Nat) (x:Operand) (k:St→Option R):Option R:=match S.get x with
 | .v .str l=>bif iy c t .str then out c o S (.v .it (l,0)) k else none
 | _=>none
def Ab (l:List UInt8) (p:Int):Int:=((Utf8.decode ⟨l.toArray⟩ p.toNat).1:Int)
def Bb (l:List UInt8) (p:Int):Int:=((Utf8.decode ⟨l.toArray⟩ p.toNat).2:Int)
def II (c:Ctx) (o:Oper) (S:St) (x:Operand) (k:St→Option R):Option R:=match x with
 | .tmp s=>match look S.env s with
  | some (.v .it z)=>bif Nat.blt s c.n then bif decide (z.2<(((List.length z.1:Nat)):Int)) then out c o (S.put s (.v .it (z.1,z.2+Bb z.1 z.2))) (.BQ [⟨.bool,true⟩,⟨.int .i64,z.2⟩,⟨.int .i32,Ab z.1 z.2⟩]) k
   else out c o S (.BQ [⟨.bool,false⟩]) k
   else none
  | _=>none
 | _=>none
def Ti (c:Ctx) (o:Oper):Bool:=match o.dst with
 | some d=>match look c.own d with | some .tr=>true | _=>false
 | none=>false
def TD (c:Ctx) (o:Oper):Bool:=match o.dst with
 | some d=>match look c.own d with | some (.ml _ _ _)=>true | _=>false
 | none=>false
def IG (c:Ctx) (o:Oper) (e:Entry):Bool:=(match o.dst with
 | some d=>match look c.own (8000000+d) with | some _=>true | none=>false
 | none=>false) && e.ps.all fq.DN
def EL (c:Ctx) (o:Oper) (S:St) (e:Entry) (xs:List Operand) (k:St→Option R):Option R:=match xR S e.ps xs with
 | some z=>(e.f z).bind fun r=>match aI (e.rs++outs e.ps) r with
  | [⟨.mr el t,l⟩]=>bif t.flat then Ht c o S (.mr el t) l k else none
  | _=>none
 | none=>none
def oF (c:Ctx) (o:Oper) (S:St) (k:St→Option R):Option R:=
 match o.op with
 | .move x=>zl c o S x k
 | .assign x=>zl c o S x k
 | .extract x i=>sW c o S x i k
 | .load t a=>loadT c o S t k (S.get a)
 | .store t a x=>match o.dst with
  | none=>storeT c t S x k (S.get a)
  | some _=>none
 | .alloc t=>match o.dst,look c.ty t with
  | some d,some i=>match look c.own d with
   | some .bn=>match i.ty with
    | .ptr _=>xw c d ⟨some t, .bn,false⟩ (.ref d [] 0) S k
    | _=>none
   | some ty=>if ty.er=i.ty then match zero ty with | some z=>xw c d ⟨some t,ty,z⟩ (.ref d [] 0) S k | none=>none else none
   | none=>match zero i.ty with | some z=>xw c d ⟨some t,i.ty,z⟩ (.ref d [] 0) S k | none=>none
  | _,_=>none
 | .box t x=>match o.dst with
  | some d=>Mk c d t S x k
  | none=>none
 | .build t parts=>match o.dst,look c.ty t with
  | some d,some ⟨.st t',0,0⟩=>match look c.own d with
   | some (.st u)=>if u.er=t' then match zero u with
     | some z=>bif Gm u parts.toList then (match oz S u parts.toList z with | some y=>out c o S (.v (.st u) y) k | none=>none) else (match vg u S parts.toList z with | some (y,S')=>out c o S' (.v (.st u) y) k | none=>none)
     | none=>none
    else none
   | _=>none
  | _,_=>none
 | .range t x=>C8 c o S t x k
 | .next x true=>II c o S x k
 | .buildSlice t n parts=>match look c.ty t with
  | some ⟨.sl t',el,_⟩=>bif TD c o then (match parts.toList with
    | [(0,x)]=>bif Nat.beq n 1 && Nat.ble t'.size 16777216 then (match S.raw x with
     | .v tv yv=>if tv.er=t' then out c o (S.strip x) (.v (.ml el t' tv) (some (([]:List t'.den),yv):Option (List t'.den×tv.den))) k else none
     | _=>none) else none
    | _=>none)
   else bif Nat.beq n parts.size && Nat.ble (n*t'.size) 16777216 then match Eb S t' 0 parts.toList with
    | some l=>z_ c o S el t' l k
    | none=>none
   else none
  | _=>none
 | .makeSlice t n m=>bif Tn c o n then match look c.ty t,S.get n,S.get m with
   | some ⟨.sl t',el,sz⟩, .v (.int _) a, .v (.int _) b=>match zero t' with
    | some _=>if a=0 then (Pt sz b).bind fun l=>out c o S (.v (.rw el t') l) k else none
    | none=>none
   | _,_,_=>none
  else match look c.ty t,S.get n,S.get m,o.dst with
  | some ⟨.sl t',el,sz⟩, .v (.int _) a, .v (.int _) b,some d=>match zero t' with
   | some z=>(made sz z a b).bind fun l=>BB c d el t' l S k
   | none=>none
  | _,_,_,_=>none
 | .slice tx x lo hi mx=>match mx with
  | none=>sliceT c tx o S x lo hi k
  | some _=>none
 | .makeInterface t x=>match look c.ty t,S.raw x with
  | some ⟨.ptr t',_,_⟩, .ref j [] 0=>match look S.az j with
   | some ob=>if ob.t.er=t' then match ob.tid with
     | some _=>match coe ob.t ob.t.er ob.x with
      | some y=>bif Ti c o then (Dr t false [] ob.t.er y).bind fun e=>out c o ⟨oZ j S.env,sO S.az j⟩ (.v .tr e) k
       else out c o ⟨oZ j S.env,sO S.az j⟩ (.v (.eb t ob.t.er) (some y:Option ob.t.er.den)) k
      | none=>none
     | none=>none
    else none
   | none=>none
  | _,_=>none
 | .call cl=>match cl.callee with
  | .builtin .append=>match cl.args.toList,cl.argTypes.toList with
   | [x,y],[t,t2]=>wW c o S x y t t2 k
   | _,_=>none
  | .builtin .copy=>match cl.args.toList,cl.argTypes.toList with
   | [x,y],[t,_]=>EZ c o S x y t k
   | _,_=>none
  | .value f=>match S.get f with
   | .fn f=>match EI c o.dst f with
    | some e=>bif IG c o e then EL c o S e cl.args.toList k else (match PE S e.ps cl.args.toList with
     | some (z,js,S1)=>(e.f z).bind fun r=>match zH S1 js ((aI (e.rs++outs e.ps) r).drop e.rs.length) with
      | some S2=>BR c o S2 ((aI (e.rs++outs e.ps) r).take e.rs.length) k
      | none=>none
     | none=>none)
    | none=>none
   | .zR g n l=>match EI c o.dst g with
    | some e=>match P5 S e.ps n l cl.args.toList with
     | some (z,js,S1)=>(e.f z).bind fun r=>match zH S1 js ((aI (e.rs++outs e.ps) r).drop e.rs.length) with
      | some S2=>BR c o S2 ((aI (e.rs++outs e.ps) r).take e.rs.length) k
      | none=>none
     | none=>none
    | none=>none
   | _=>none
  | .invoke x m=>match o.dst,cl.args.toList,S.get x with
   | some d,[], .v .tr e=>match look c.iv d with
    | some v=>if v.m=m then (v.f e).bind fun r=>BR c o S (aI v.rs r) k else none
    | none=>none
   | _,_,_=>none
  | _=>none
 | _=>none
def kY (c:Ctx) (o:Oper):Bool:=match o.dst with
 | none=>false
 | some d=>bif mem d c.tk then false else bif mem d c.ef then false else match o.op with
  | .move _=>match look c.own d with | some _=>false | none=>true
  | .assign _=>match look c.own d with | some _=>false | none=>true
  | .pick _ _ _=>true | .nilCheck _=>true | .binOp _ _ _ _ _=>true | .unOp _ _ _=>true | .convert _ _ _=>true
  | .extract _ _=>true | .load _ _=>true | .build _ _=>(match look c.own d with | some _=>false | none=>true) | .slice _ _ _ _ _=>true | .fieldAddr _ _ _=>true | .field _ _ _=>true | .indexAddr _ _ _=>true | .index _ _ _=>true | .makeFunc _ _ _=>true | .makeInterface _ _=>true | .typeAssert _ _ _ _=>true
  | .call cl=>match cl.callee with
   | .builtin .len=>true
   | .builtin .max=>true
   | .builtin .min=>true
   | .value (.func f)=>match look c.fn f with | some e=>e.plain | none=>(match look c.ip f with | some _=>true | none=>false)
   | _=>false
  | _=>false
def F8 (c:Ctx) (o:Oper) (S:St) (k:St→Option R):Option R:=
 bif kY c o then fF c o.op S fun d=>out c o S d k else oF c o S k
def A_ (ops:List Oper) (j:Nat):Option Nat:=match ops[j]? with | some o=>o.dst | none=>none
def opsE (c:Ctx) (all:List Oper):List Oper→St→(St→Option R)→Option R
 | [],S,k=>k S
 | o::r,S,k=>match o.guard with
  | none=>F8 c o S fun S'=>opsE c all r S' k
  | some (j,want)=>match A_ all j,o.dst with
   | some s,some d=>match look S.env s with
    | some (.v .bool b)=>bif (bif want then b else !b) then F8 c o (S.put s (bR want)) (fun S'=>opsE c all r S' k) else (bif Nat.blt d c.n then opsE c all r ((S.put s (bR (!want))).put d .EF) k else none)
    | some .EF=>bif Nat.blt d c.n then opsE c all r (S.put d .EF) k else none
    | _=>none
   | _,_=>none
end
end Go.Lf
/-
  Arrays: places, read and written through the number of an element.
-/
namespace Go.Lf
open Go
theorem zI {t:Ty} {x:t.den}:aU t [] x=some ⟨t,x⟩:=by unfold aU;rfl
theorem qR {t:Ty}:aH t []=0:=by cases t<;>rfl
theorem I5 {t:Ty} {y:Dn} {x:t.den}:bN t [] y x=if y.1.er=t.er then some y else none:=by unfold bN;rfl
theorem AO {t:Ty} {d:Dir} {p:List Dir} {x:t.den} {u:Dn} (h:aU t (d::p) x=some u):(∃ a,t= .st a∧d= .i)∨(∃ a b,t= .pr a b∧(d= .l∨d= .r)):=by
 cases t<;>cases d<;>first | (simp [aU] at h;done) | exact .inl ⟨_,rfl,rfl⟩ | exact .inr ⟨_,_,rfl, .inl rfl⟩ | exact .inr ⟨_,_,rfl, .inr rfl⟩
theorem tH: ∀ {p:List Dir} {t:Ty} {x:t.den} {u:Dn} (r:List Dir),aU t p x=some u→aU t (p++r) x=aU u.1 r u.2∧aH t (p++r)=aH t p+aH u.1 r
 | [],t,x,u,r,h=>by
  rw [zI] at h
  injection h with h
  subst h
  exact ⟨rfl,by rw [qR,Nat.zero_add];rfl⟩
 | d::p,t,x,u,r,h=>by
  rcases AO h with ⟨a,rfl,rfl⟩ | ⟨a,b,rfl,rfl | rfl⟩
  ·exact tH (p:=p) (t:=a) (x:=x) r h
  ·exact tH (p:=p) (t:=a) (x:=x.1) r h
  ·obtain ⟨h1,h2⟩:=tH (p:=p) (t:=b) (x:=x.2) r h
   refine ⟨h1,?_⟩
   show a.size+aH b (p++r)=a.size+aH b p+aH u.1 r
   rw [h2,Nat.add_assoc]
theorem BU: ∀ {p:List Dir} {t:Ty} {y:Dn} {x:t.den} {z:Dn},bN t p y x=some z→z.1.er=t.er
 | [],t,y,x,z,h=>by
  rw [I5] at h
  split at h
  ·rename_i he
   injection h with h
   subst h
   exact he
  ·cases h
 | d::p,t,y,x,z,h=>by
  cases t<;>cases d<;>first | (simp [bN] at h;done) | skip
  ·rename_i a
   have h:(match bN a p y x with | some z=>some (⟨.st z.1,z.2⟩:Dn) | none=>none)=some z:=h
   split at h
   ·rename_i z' hz
    injection h with h
    subst h
    show Ty.st z'.1.er=Ty.st a.er
    rw [BU hz]
   ·cases h
  ·rename_i a b
   have h:(match bN a p y x.1 with | some z=>some (⟨.pr z.1 b,(z.2,x.2)⟩:Dn) | none=>none)=some z:=h
   split at h
   ·rename_i z' hz
    injection h with h
    subst h
    show Ty.pr z'.1.er b.er=Ty.pr a.er b.er
    rw [BU hz]
   ·cases h
  ·rename_i a b
   have h:(match bN b p y x.2 with | some z=>some (⟨.pr a z.1,(x.1,z.2)⟩:Dn) | none=>none)=some z:=h
   split at h
   ·rename_i z' hz
    injection h with h
    subst h
    show Ty.pr a.er z'.1.er=Ty.pr a.er b.er
    rw [BU hz]
   ·cases h
theorem yR: ∀ {p:List Dir} {t:Ty} {x:t.den} {u u':Dn} {y:Dn} {r:List Dir},aU t p x=some u→bN u.1 r y u.2=some u'→bN t (p++r) y x=bN t p u' x
 | [],t,x,u,u',y,r,h,h2=>by
  rw [zI] at h
  injection h with h
  subst h
  rw [I5,if_pos (BU h2)]
  exact h2
 | d::p,t,x,u,u',y,r,h,h2=>by
  rcases AO h with ⟨a,rfl,rfl⟩ | ⟨a,b,rfl,rfl | rfl⟩
  ·have:=yR (p:=p) (t:=a) (x:=x) (r:=r) h h2
   show (match bN a (p++r) y x with | some z=>some (⟨.st z.1,z.2⟩:Dn) | none=>none)=(match bN a p u' x with | some z=>some (⟨.st z.1,z.2⟩:Dn) | none=>none)
   rw [this]
  ·have:=yR (p:=p) (t:=a) (x:=x.1) (r:=r) h h2
   show (match bN a (p++r) y x.1 with | some z=>some (⟨.pr z.1 b,(z.2,x.2)⟩:Dn) | none=>none)=(match bN a p u' x.1 with | some z=>some (⟨.pr z.1 b,(z.2,x.2)⟩:Dn) | none=>none)
   rw [this]
  ·have:=yR (p:=p) (t:=b) (x:=x.2) (r:=r) h h2
   show (match bN b (p++r) y x.2 with | some z=>some (⟨.pr a z.1,(x.1,z.2)⟩:Dn) | none=>none)=(match bN b p u' x.2 with | some z=>some (⟨.pr a z.1,(x.1,z.2)⟩:Dn) | none=>none)
   rw [this]
theorem BX: ∀ {p:List Dir} {t:Ty} {x:t.den} {u:Dn},aU t p x=some u→aH t p+u.1.size≤t.size
 | [],t,x,u,h=>by
  rw [zI] at h
  injection h with h
  subst h
  rw [qR,Nat.zero_add]
  exact Nat.le_refl _
 | d::p,t,x,u,h=>by
  rcases AO h with ⟨a,rfl,rfl⟩ | ⟨a,b,rfl,rfl | rfl⟩
  ·exact BX (p:=p) (t:=a) (x:=x) h
  ·exact Nat.le_trans (BX (p:=p) (t:=a) (x:=x.1) h) (Nat.le_add_right _ _)
  ·have:=BX (p:=p) (t:=b) (x:=x.2) h
   show a.size+aH b p+u.1.size≤a.size+b.size
   omega
theorem Df {a:Ty}: ∀ {n:Nat},nf (fB a n)=n
 | 0=>rfl
 | n+1=>by show nf (fB a n)+1=n+1;rw [Df]
theorem Jf {a:Ty}: ∀ {n:Nat},(fB a n).size=n*a.size
 | 0=>by rw [Nat.zero_mul];rfl
 | n+1=>by show a.size+(fB a n).size=(n+1)*a.size;rw [Jf,Nat.succ_mul,Nat.add_comm]
theorem Kv {t a:Ty} {y:t.den} {l:List a.den} (h:Xu t a y=some l): ∃ N, ∃ e:t=fB a N,l=kD a N (ma e y):=by
 unfold Xu at h
 split at h
 ·rename_i e
  injection h with h
  exact ⟨_,e,h.symm⟩
 ·cases h
theorem UD {a:Ty} {N:Nat} {y y':(fB a N).den} {n:Nat} {e:a.den} (h:YQ (fB a N) a y n e=some y'):y'=Ef a N y n e:=by
 have key: ∀ M,M=N→ ∀ e1:fB a N=fB a M,ma e1.symm (Ef a M (ma e1 y) n e)=Ef a N y n e:=fun M hM e1=>by
  subst hM;rfl
 unfold YQ at h
 split at h
 ·rename_i e1
  injection h with h
  rw [← h]
  exact key _ Df e1
 ·cases h
theorem Cu {a:Ty} {q:List Dir}: ∀ {N n:Nat} {y:(fB a N).den} {e:a.den},(kD a N y)[n]? =some e→aU (fB a N) (aD (fB a N) n++q) y=aU a q e∧aH (fB a N) (aD (fB a N) n++q)=n*a.size+aH a q∧n<N
 | 0,n,y,e,h=>by simp [kD] at h
 | N+1,0,y,e,h=>by
  have h:(y.1::kD a N y.2)[0]? =some e:=h
  simp only [List.getElem?_cons_zero,Option.some.injEq] at h
  subst h
  refine ⟨rfl,?_,Nat.succ_pos _⟩
  show aH a q=0*a.size+aH a q
  rw [Nat.zero_mul,Nat.zero_add]
 | N+1,n+1,y,e,h=>by
  have h:(y.1::kD a N y.2)[n+1]? =some e:=h
  rw [List.getElem?_cons_succ] at h
  obtain ⟨h1,h2,h3⟩:=Cu (a:=a) (q:=q) h
  refine ⟨h1,?_,Nat.succ_lt_succ h3⟩
  show a.size+aH (fB a N) (aD (fB a N) n++q)=(n+1)*a.size+aH a q
  rw [h2,Nat.succ_mul]
  omega
theorem LV {a:Ty} {q:List Dir} {w:Dn}: ∀ {N n:Nat} {y:(fB a N).den} {e e':a.den},(kD a N y)[n]? =some e→bN a q w e=some ⟨a,e'⟩→bN (fB a N) (aD (fB a N) n++q) w y=some ⟨fB a N,Ef a N y n e'⟩
 | 0,n,y,e,e',h,_=>by simp [kD] at h
 | N+1,0,y,e,e',h,h2=>by
  have h:(y.1::kD a N y.2)[0]? =some e:=h
  simp only [List.getElem?_cons_zero,Option.some.injEq] at h
  subst h
  show (match bN a q w y.1 with | some z=>some (⟨.pr z.1 (fB a N),(z.2,y.2)⟩:Dn) | none=>none)=_
  rw [h2]
  rfl
 | N+1,n+1,y,e,e',h,h2=>by
  have h:(y.1::kD a N y.2)[n+1]? =some e:=h
  rw [List.getElem?_cons_succ] at h
  have:=LV (a:=a) (q:=q) h h2
  show (match bN (fB a N) (aD (fB a N) n++q) w y.2 with | some z=>some (⟨.pr a z.1,(y.1,z.2)⟩:Dn) | none=>none)=_
  rw [this]
  rfl
theorem Cj {a:Ty}: ∀ {N n:Nat} {y:(fB a N).den} {e:a.den},kD a N (Ef a N y n e)=(kD a N y).set n e
 | 0,n,y,e=>rfl
 | N+1,0,y,e=>rfl
 | N+1,n+1,y,e=>by
  show y.1::kD a N (Ef a N y.2 n e)=(y.1::kD a N y.2).set (n+1) e
  rw [Cj];rfl
theorem zf {j o n:Nat} {o1 n1:Nat} (h1:o≤o1) (h2:o1+n1≤o+n): ∀ {l:List (Nat×D)},Rx j o n l=true→jB j o1 n1 l=l
 | [],_=>rfl
 | (k,d)::r,h=>by
  have key: ∀ i o',(bif Nat.beq j i && Nat.ble o o' && Nat.blt o' (o+n) then false else Rx j o n r)=true→(Nat.beq j i && Nat.ble o1 o' && Nat.blt o' (o1+n1))=false∧Rx j o n r=true:=fun i o' hb=>by
   cases hc:(Nat.beq j i && Nat.ble o o' && Nat.blt o' (o+n)) with
   | true=>rw [hc] at hb;cases hb
   | false=>
    rw [hc] at hb
    refine ⟨?_,hb⟩
    cases hd:(Nat.beq j i && Nat.ble o1 o' && Nat.blt o' (o1+n1)) with
    | false=>rfl
    | true=>
     simp only [Bool.and_eq_true,Nat.ble_eq,Nat.blt_eq] at hd
     have:(Nat.beq j i && Nat.ble o o' && Nat.blt o' (o+n))=true:=by
      simp only [Bool.and_eq_true,Nat.ble_eq,Nat.blt_eq]
      exact ⟨⟨hd.1.1,by omega⟩,by omega⟩
     rw [this] at hc;cases hc
  cases d with
  | bO i p o'=>
   obtain ⟨e1,e2⟩:=key i o' h
   unfold jB
   rw [e1,zf h1 h2 e2];rfl
  | xZ i p o' m z q qo=>
   obtain ⟨e1,e2⟩:=key i o' h
   unfold jB
   rw [e1,zf h1 h2 e2];rfl
  | _=>
   have h:Rx j o n r=true:=h
   unfold jB
   rw [zf h1 h2 h]
end Go.Lf
/-
  What a state of the interpreter says of a frame and of memory.
-/
namespace Go.Lf
open Go Go.iM
def Sub (h h':List Chunk):Prop:= ∀ (C:Cx) (w:World) (I:World→Prop) (r:List Chunk),Hb C w (h++r) I→Hb C w (h'++r) I
theorem Sub.refl (h:List Chunk):Sub h h:=fun _ _ _ _ x=>x
theorem Sub.trans {a b c:List Chunk} (h:Sub a b) (h':Sub b c):Sub a c:=fun _ _ _ _ x=>h' _ _ _ _ (h _ _ _ _ x)
theorem Sub.perm {a b:List Chunk} (p:a.Perm b):Sub a b:=fun _ _ _ r x=>x.perm (p.append_right r)
theorem Sub.nil (a:List Chunk):Sub a []:=fun _ _ _ r x=>Hb.weak (ds:=a) (ks:=r) x fun _ h _=>h
theorem Sub.app {a b a' b':List Chunk} (h:Sub a a') (h':Sub b b'):Sub (a++b) (a'++b'):=fun C w I r x=>by
 rw [List.append_assoc] at x
 have x1:=h _ _ _ _ x
 have x2:Hb C w (b++(a'++r)) I:=x1.perm (by rw [← List.append_assoc, ← List.append_assoc];exact List.perm_append_comm.append_right r)
 have x3:=h' _ _ _ _ x2
 exact x3.perm (by rw [← List.append_assoc];exact List.perm_append_comm.append_right r)
theorem Sub.cons {c:Chunk} {a a':List Chunk} (h:Sub a a'):Sub (c::a) (c::a'):=Sub.app (a:=[c]) (Sub.refl _) h
theorem Sub.right {a b:List Chunk}:Sub (a++b) b:=(Sub.app (Sub.nil a) (Sub.refl b))
theorem Sub.left {a b:List Chunk}:Sub (a++b) a:=by simpa using Sub.app (Sub.refl a) (Sub.nil b)
theorem Sub.hb {a b:List Chunk} (h:Sub a b) {C:Cx} {w:World} {I:World→Prop} (x:Hb C w a I):Hb C w b I:=by
 have:=h C w I [] (by simpa using x)
 simpa using this
theorem Sub.mZ (p:Bool) (t size:Nat):Sub [] [.row p (.slice none 0 0) t size 0 []]:=fun C w I r h=>by
 refine h.step (Ext.refl _ _ _) (fun c hc=>?_) (fun c hc g hg=>?_) ?_ fun c hc g hg d hd hdg=>?_
 ·rcases List.mem_cons.1 hc with rfl | hc
  ·exact World.ownsRow_nil _ _ _ _
  ·exact h.hp.hold c hc
 ·rcases List.mem_cons.1 hc with rfl | hc
  ·simp [Chunk.blk,Value.ownBlock] at hg
  ·exact .inl ⟨c,hc,hg⟩
 ·exact List.pairwise_cons.2 ⟨fun d _ g hg=>by simp [Chunk.blk,Value.ownBlock] at hg,h.hp.apart⟩
 ·rcases List.mem_cons.1 hd with rfl | hd
  ·simp [Chunk.blk,Value.ownBlock] at hdg
  ·rw [Apart.uniq h.hp.apart c hc d hd g hg hdg];exact Nat.le_refl _
theorem Ty.f_ (t:Ty):t.er.er=t.er:=by induction t<;>simp_all [Ty.er]
theorem Rp.aP {φ:bL}: ∀ {t:Ty} {x:t.den} {cs:List Value} {hs:List Chunk},t=t.er→Rp φ t x cs hs→hs=[]
 | .int _,_,_,_,_,h=>h.2
 | .bool,_,_,_,_,h=>h.2
 | .str,_,_,_,_,h=>h.2
 | .unit,_,_,_,_,h=>h.2
 | .it,_,_,_,e,_=>by simp [Ty.er] at e
 | .xX,_,_,_,_,h=>by obtain ⟨_,_,h2⟩:=h;exact h2
 | .dead _ _,_,_,_,e,_=>by simp [Ty.er] at e
 | .sl _,_,_,_,_,h=>by obtain ⟨_,_,_,_,_,_,_,h5⟩:=h;exact h5
 | .rw _ _,_,_,_,e,_=>by simp [Ty.er] at e
 | .mr _ _,_,_,_,e,_=>by simp [Ty.er] at e
 | .ptr _,_,_,_,_,h=>by obtain ⟨_,_,_,_,_,h5⟩:=h;exact h5
 | .eb _ _,_,_,_,_,h=>h.1
 | .on _,_,_,_,_,h=>by obtain ⟨_,_,_,_,_,_,_,_,h5⟩:=h;exact h5
 | .fl _,_,_,_,_,h=>by obtain ⟨_,_,_,_,_,h5⟩:=h;exact h5
 | .op _,_,_,_,_,h=>h.1
 | .bx _ _,_,_,_,e,_=>by simp [Ty.er] at e
 | .bo _ _,_,_,_,e,_=>by simp [Ty.er] at e
 | .bn,_,_,_,_,h=>h.2
 | .tr,_,_,_,_,h=>h.2
 | .ml _ _ _,_,_,_,e,_=>by simp [Ty.er] at e
 | .st t,_,_,_,e,h=>Rp.aP (t:=t) (by simpa [Ty.er] using e) h
 | .pr a b,_,_,_,e,h=>by
  obtain ⟨_,_,_,_,_,e2,h3,h4⟩:=h
  simp only [Ty.er,Ty.pr.injEq] at e
  rw [e2,Rp.aP e.1 h3,Rp.aP e.2 h4];rfl
theorem eP {φ:bL}: ∀ {t t':Ty} {x:t.den} {y:t'.den} {cs:List Value} {h:List Chunk},coe t t' x=some y→Rp φ t x cs h→ ∃ h',Rp φ t' y cs h'∧Sub h h'
 | t,t',x,y,cs,h=>by
  have key: ∀ (hh:t=t'),(some (hh▸x):Option t'.den)=some y→Rp φ t x cs h→ ∃ h',Rp φ t' y cs h'∧Sub h h':=by
   intro hh e r
   subst hh
   simp only [Option.some.injEq] at e
   subst e
   exact ⟨h,r,Sub.refl _⟩
  intro e r
  unfold coe at e
  split at e
  ·rename_i a b x
   split at e
   ·rename_i hh
    subst hh
    simp only [Option.some.injEq] at e
    subst e
    exact ⟨h,r,Sub.refl _⟩
   ·exact eP (t:=a) (t':=b) e r
  ·rename_i a b a' b' x
   obtain ⟨c1,c2,h1,h2,e1,e2,r1,r2⟩:=r
   split at e
   ·rename_i y1 z1 hy hz
    simp only [Option.some.injEq] at e
    subst e
    obtain ⟨k1,q1,s1⟩:=eP hy r1
    obtain ⟨k2,q2,s2⟩:=eP hz r2
    exact ⟨k1++k2,⟨c1,c2,k1,k2,e1,rfl,q1,q2⟩,by rw [e2];exact Sub.app s1 s2⟩
   ·cases e
  ·rename_i el a b x
   split at e
   ·rename_i hh
    subst hh
    simp only [Option.some.injEq] at e
    subst e
    obtain ⟨A,c,css,h1,h2,h3,h4,h5⟩:=r
    exact ⟨[],⟨A,c,css,h1,h2,h3,h4,rfl⟩,Sub.nil _⟩
   ·cases e
  ·rename_i a b x
   split at e
   ·rename_i hh
    subst hh
    simp only [Option.some.injEq] at e
    subst e
    obtain ⟨A,c,css,h1,h2,h3,h4,_,h5⟩:=r
    exact ⟨[],⟨A,c,css,h1,h2,h3,h4,rfl⟩,Sub.nil _⟩
   ·cases e
  ·rename_i a b x
   split at e
   ·rename_i hh
    subst hh
    simp only [Option.some.injEq] at e
    subst e
    obtain ⟨A,css,h1,h3,h4,h5⟩:=r
    exact ⟨[],⟨A,_,css,h1,Nat.le_refl _,h3,h4,rfl⟩,Sub.nil _⟩
   ·cases e
  ·obtain ⟨g,p,h1,h2⟩:=r
   exact ⟨[],⟨g,h1,rfl⟩,Sub.nil _⟩
  ·obtain ⟨g,_,_,h1,h2⟩:=r
   exact ⟨[],⟨g,h1,rfl⟩,Sub.nil _⟩
  ·rename_i id a x
   simp only [Option.some.injEq] at e
   subst e
   cases x with
   | none=>obtain ⟨h1,_⟩:=r;exact ⟨[],⟨⟨none,h1,rfl⟩,rfl⟩,Sub.nil _⟩
   | some z=>obtain ⟨g,_,_,h1,_⟩:=r;exact ⟨[],⟨⟨some _,h1,rfl⟩,rfl⟩,Sub.nil _⟩
  ·rename_i a b x
   split at e
   ·rename_i hh
    subst hh
    simp only [Option.some.injEq] at e
    subst e
    obtain ⟨ad,cs',h1,h2,h3,h4⟩:=r
    exact ⟨[],⟨rfl,ad,cs',h1,h2,h3⟩,Sub.nil _⟩
   ·cases e
  ·split at e
   ·rename_i hh
    exact key hh e r
   ·cases e
theorem Cq {φ:bL}: ∀ {t t':Ty} {x:t.den} {y:t'.den} {cs:List Value} {h:List Chunk},J2 t t' x=some y→Rp φ t x cs h→ ∃ h',Rp φ t' y cs h'
 | t,t',x,y,cs,h,e,r=>by
  unfold J2 at e
  split at e
  ·rename_i a b x
   exact Cq (t:=a) (t':=b) e r
  ·obtain ⟨c1,c2,h1,h2,e1,e2,r1,r2⟩:=r
   split at e
   ·rename_i y1 z1 hy hz
    simp only [Option.some.injEq] at e
    subst e
    obtain ⟨k1,q1⟩:=Cq hy r1
    obtain ⟨k2,q2⟩:=Cq hz r2
    exact ⟨k1++k2,c1,c2,k1,k2,e1,rfl,q1,q2⟩
   ·cases e
  ·obtain ⟨A,c,css,h1,_⟩:=r
   exact ⟨[],A,_,c,h1,rfl⟩
  ·obtain ⟨h',r1,_⟩:=eP e r
   exact ⟨h',r1⟩
theorem GV {φ:bL}: ∀ {t:Ty} {y:t.cp.den} {cs:List Value} {h:List Chunk},Rp φ t.cp y cs h→h=[]
 | .mr _ _,_,_,_,r=>by obtain ⟨_,_,_,_,h⟩:=r;exact h
 | .st t,_,_,_,r=>GV (t:=t) r
 | .pr a b,_,_,_,r=>by
  obtain ⟨_,_,h1,h2,_,e2,r1,r2⟩:=r
  rw [e2,GV (t:=a) r1,GV (t:=b) r2];rfl
 | .tr,_,_,_,r=>r.2
 | .int _,_,_,_,r=>r.2
 | .bool,_,_,_,r=>r.2
 | .str,_,_,_,r=>r.2
 | .unit,_,_,_,r=>r.2
 | .it,_,_,_,r=>Rp.aP (Ty.f_ .it).symm r
 | .xX,_,_,_,r=>Rp.aP (Ty.f_ .xX).symm r
 | .dead a t,_,_,_,r=>Rp.aP (Ty.f_ (.dead a t)).symm r
 | .sl t,_,_,_,r=>Rp.aP (Ty.f_ (.sl t)).symm r
 | .rw a t,_,_,_,r=>Rp.aP (Ty.f_ (.rw a t)).symm r
 | .ptr t,_,_,_,r=>Rp.aP (Ty.f_ (.ptr t)).symm r
 | .eb a t,_,_,_,r=>Rp.aP (Ty.f_ (.eb a t)).symm r
 | .on t,_,_,_,r=>Rp.aP (Ty.f_ (.on t)).symm r
 | .fl t,_,_,_,r=>Rp.aP (Ty.f_ (.fl t)).symm r
 | .op t,_,_,_,r=>Rp.aP (Ty.f_ (.op t)).symm r
 | .bx a t,_,_,_,r=>Rp.aP (Ty.f_ (.bx a t)).symm r
 | .bo a t,_,_,_,r=>Rp.aP (Ty.f_ (.bo a t)).symm r
 | .bn,_,_,_,r=>Rp.aP (Ty.f_ .bn).symm r
 | .ml a b t,_,_,_,r=>Rp.aP (Ty.f_ (.ml a b t)).symm r
theorem jX {φ:bL} {t:Ty} {x:t.den} {cs:List Value} {h:List Chunk} (ht:t.top=true) (r:Rp φ t x cs h):(sv t cs).cells=cs.toArray:=by
 cases t with
 | st t=>rfl
 | tr=>obtain ⟨⟨v,rfl,hv⟩,_⟩:=r;rcases hv.one' with rfl | ⟨t,p,rfl⟩<;>rfl
 | int k=>obtain ⟨rfl,_⟩:=r;rfl
 | bool=>obtain ⟨rfl,_⟩:=r;rfl
 | str=>obtain ⟨rfl,_⟩:=r;rfl
 | sl t=>obtain ⟨_,_,_,rfl,_⟩:=r;rfl
 | rw el t=>obtain ⟨_,_,_,rfl,_⟩:=r;rfl
 | ptr t=>obtain ⟨_,_,rfl,_⟩:=r;rfl
 | eb te t=>cases x with
  | none=>obtain ⟨_,rfl⟩:=r;rfl
  | some y=>obtain ⟨_,_,_,rfl,_⟩:=r;rfl
 | op t=>cases x with
  | none=>obtain ⟨_,rfl⟩:=r;rfl
  | some y=>obtain ⟨_,_,_,rfl,_⟩:=r;rfl
 | mr el t=>obtain ⟨_,_,_,rfl,_⟩:=r;rfl
 | on t=>obtain ⟨_,_,_,rfl,_⟩:=r;rfl
 | fl t=>obtain ⟨_,_,rfl,_⟩:=r;rfl
 | it=>obtain ⟨_,_,rfl,_⟩:=r;rfl
 | xX=>obtain ⟨_,rfl,_⟩:=r;rfl
 | bx _ _=>obtain ⟨_,_,_,rfl,_⟩:=r;rfl
 | bo _ t=>cases x with
  | none=>obtain ⟨rfl,_⟩:=r;rfl
  | some y=>obtain ⟨_,_,_,rfl,_⟩:=r;rfl
 | bn=>obtain ⟨⟨_,rfl,_⟩,_⟩:=r;rfl
 | ml _ a t=>cases x with
  | none=>obtain ⟨rfl,_⟩:=r;rfl
  | some y=>obtain ⟨_,_,_,_,_,rfl,_⟩:=r;rfl
 | unit=>cases ht
 | dead _ _=>cases ht
 | pr _ _=>cases ht
theorem qI: ∀ {t t':Ty} {x:t.den} {y:t'.den},coe t t' x=some y→ ∀ cs,sv t cs=sv t' cs
 | t,t',x,y=>by
  intro e cs
  unfold coe at e
  split at e
  ·rfl
  ·rcases cs with _ | ⟨v,_ | _⟩<;>rfl
  ·rcases cs with _ | ⟨v,_ | _⟩<;>rfl
  ·rcases cs with _ | ⟨v,_ | _⟩<;>rfl
  ·rcases cs with _ | ⟨v,_ | _⟩<;>rfl
  ·rcases cs with _ | ⟨v,_ | _⟩<;>rfl
  ·rcases cs with _ | ⟨v,_ | _⟩<;>rfl
  ·rcases cs with _ | ⟨v,_ | _⟩<;>rfl
  ·rcases cs with _ | ⟨v,_ | _⟩<;>rfl
  ·split at e
   ·rename_i h;rw [h]
   ·cases e
theorem jN: ∀ {t t':Ty} {x:t.den} {y:t'.den},coe t t' x=some y→t.top=true→t'.top=true
 | t,t',x,y=>by
  intro e h
  unfold coe at e
  split at e
  ·rfl
  ·cases h
  ·rfl
  ·rfl
  ·rfl
  ·rfl
  ·rfl
  ·rfl
  ·rfl
  ·split at e
   ·rename_i h';rw [← h'];exact h
   ·cases e
structure d_ where
 φ:bL
 aA:Nat→Nat
 hd:Nat→List Value
inductive ji (φ:bL):List Dn→List Value→List Chunk→Prop
 | nil:ji φ [] [] []
 | cons {t:Ty} {x:t.den} {cs:List Value} {h hs:List Chunk} {l:List Dn} {vs:List Value}:t.top=true→Rp φ t x cs h→ji φ l vs hs→ji φ (⟨t,x⟩::l) (sv t cs::vs) (h++hs)
def Xa (g o sz qo:Nat):Option Nat→Value
 | none=> .pointer none
 | some n=> .pointer (some ⟨g,o+(n*sz+qo),none⟩)
def zk (W:d_):Bool×Nat×List Dir×Nat→Value→Prop
 | (false,j,_,o),v=>v= .pointer (some ⟨W.aA j,o,none⟩)
 | (true,j,_,o),v=> ∃ c,v= .pointer (some c)∧W.φ c=some (.pointer (some ⟨W.aA j,o,none⟩))
def DR (W:d_):D→Value→List Chunk→Prop
 | .v t x,v,h=> ∃ cs,t.top=true∧v=sv t cs∧Rp W.φ t x cs h
 | .uW,v,h=>v= .slice none 0 0∧h=[]
 | .Es,v,h=>v= .pointer none∧h=[]
 | .RO,v,h=>v= .nilIface∧h=[]
 | .und,_,h=>h=[]
 | .EF,v,h=>v=undef∧h=[]
 | .ref j _ o,v,h=>v= .pointer (some ⟨W.aA j,o,none⟩)∧h=[]
 | .Ca t x,v,h=> ∃ ad cs,v= .pointer (some ad)∧Rp W.φ t x cs []∧kE W.φ ad cs∧h=[]
 | .bO j _ o,v,h=>(W.hd j)[o]? =some v∧h=[]
 | .xZ j _ o n sz _ qo,v,h=> ∃ A m c,(W.hd j)[o]? =some (.slice (some A) m c)∧v= .pointer (some (A.add (n*sz+qo)))∧h=[]
 | .xV j _ o m sz _ qo,v,h=>v=Xa (W.aA j) o sz qo m∧h=[]
 | .BQ l,v,h=> ∃ vs,v= .tuple vs.toArray∧ji W.φ l vs h
 | .fn f,v,h=>v= .func (.func f) #[] #[]∧h=[]
 | .sJ j _ o,v,h=>(∃ c,v= .pointer (some c)∧W.φ c=some (.pointer (some ⟨W.aA j,o,none⟩)))∧h=[]
 | .NQ j _ o k n,v,h=>(k≤n∧v= .slice (some ⟨W.aA j,o,none⟩) k n)∧h=[]
 | .MK te j _ o,v,h=>v= .iface te (.pointer (some ⟨W.aA j,o,none⟩))∧h=[]
 | .zR g n l,v,h=>(∃ vs,bz (zk W) l vs∧v= .func (.func g) (vs.take n).toArray (vs.drop n).toArray)∧h=[]
theorem zk.move {W W':d_} {p:Bool×Nat×List Dir×Nat} {v:Value} (h:zk W p v) (hle:W.φ.le W'.φ) (hadr:W'.aA p.2.1=W.aA p.2.1):zk W' p v:=by
 obtain ⟨b,j,q,o⟩:=p
 cases b with
 | false=>show v= .pointer (some ⟨W'.aA j,o,none⟩);rw [show W'.aA j=W.aA j from hadr];exact h
 | true=>obtain ⟨c,h1,h2⟩:=h;exact ⟨c,h1,by rw [show W'.aA j=W.aA j from hadr];exact hle _ _ h2⟩
theorem zk.all {W W':d_} {l:List (Bool×Nat×List Dir×Nat)} {vs:List Value} (h:bz (zk W) l vs) (hle:W.φ.le W'.φ) (hadr: ∀ p∈l,W'.aA p.2.1=W.aA p.2.1):bz (zk W') l vs:=by
 induction h with
 | nil=>exact .nil
 | cons h1 _ ih=>exact .cons (h1.move hle (hadr _ List.mem_cons_self)) (ih fun p hp=>hadr p (List.mem_cons_of_mem _ hp))
inductive ay (W:d_):List (Nat×D)→Env→List Chunk→Prop
 | nil:ay W [] [] []
 | cons {k:Nat} {d:D} {v:Value} {h hs:List Chunk} {l:List (Nat×D)} {e:Env}:DR W d v h→ay W l e hs→ay W ((k,d)::l) ((k,v)::e) (h++hs)
def xn (W:d_) (j:Nat) (ob:Ob) (h:List Chunk):Prop:= ∃ h0,Rp W.φ ob.t ob.x (W.hd j) h0∧h=match ob.tid with | some tid=>blk (W.aA j) tid (W.hd j)::h0 | none=>h0
inductive nO (W:d_):List (Nat×Ob)→List Chunk→Prop
 | nil:nO W [] []
 | cons {j:Nat} {ob:Ob} {h hs:List Chunk} {l:List (Nat×Ob)}:xn W j ob h→nO W l hs→nO W ((j,ob)::l) (h++hs)
structure aZ (S:St) (W:d_) (e:Env) (eh oh:List Chunk):Prop where
 env:ay W S.env e eh
 l9:nO W S.az oh
 nd:(S.az.map (·.1)).Nodup
theorem au {α:Type} {k n:Nat} {v:α} {r:List (Nat×α)}:look ((k,v)::r) n=if k=n then some v else look r n:=by
 show (bif Nat.beq k n then some v else look r n)=_
 by_cases h:k=n
 ·subst h;simp [Nat.beq_refl]
 ·have:Nat.beq k n=false:=by
   cases hb:Nat.beq k n with
   | false=>rfl
   | true=>exact absurd (Nat.eq_of_beq_eq_true hb) h
  simp [this,h]
theorem aJ {α:Type} {k n:Nat} {v x:α} {r:List (Nat×α)}:aQ ((k,v)::r) n x=if k=n then (n,x)::r else (k,v)::aQ r n x:=by
 show (bif Nat.beq k n then (n,x)::r else (k,v)::aQ r n x)=_
 by_cases h:k=n
 ·subst h;simp [Nat.beq_refl]
 ·have:Nat.beq k n=false:=by
   cases hb:Nat.beq k n with
   | false=>rfl
   | true=>exact absurd (Nat.eq_of_beq_eq_true hb) h
  simp [this,h]
theorem wN {α:Type} {k n:Nat} {v:α} {r:List (Nat×α)}:sO ((k,v)::r) n=if k=n then sO r n else (k,v)::sO r n:=by
 show (bif Nat.beq k n then sO r n else (k,v)::sO r n)=_
 by_cases h:k=n
 ·subst h;simp [Nat.beq_refl]
 ·have:Nat.beq k n=false:=by
   cases hb:Nat.beq k n with
   | false=>rfl
   | true=>exact absurd (Nat.eq_of_beq_eq_true hb) h
  simp [this,h]
theorem ay.look {W:d_} {l:List (Nat×D)} {e:Env} {hs:List Chunk} (h:ay W l e hs) {k:Nat} {d:D} (hk:Lf.look l k=some d): ∃ v h r,rW e k v∧DR W d v h∧hs.Perm (h++r):=by
 induction h with
 | nil=>cases hk
 | @cons k' d' v h hs l e h1 h2 ih=>
  rw [au] at hk
  split at hk
  ·rename_i hkk
   subst hkk
   simp only [Option.some.injEq] at hk
   subst hk
   exact ⟨v,h,hs, .here,h1,List.Perm.refl _⟩
  ·obtain ⟨v2,h3,r,h4,h5,h6⟩:=ih hk
   exact ⟨v2,h3,h++r, .there h4,h5,(h6.append_left h).trans (by rw [← List.append_assoc, ← List.append_assoc];exact List.perm_append_comm.append_right r)⟩
theorem ay.put {W:d_} {l:List (Nat×D)} {e:Env} {hs:List Chunk} (h:ay W l e hs) {k:Nat} {d:D} {v:Value} {hd:List Chunk} (hv:DR W d v hd): ∃ hs',ay W (aQ l k d) (aQ e k v) hs'∧Sub (hd++hs) hs':=by
 induction h with
 | nil=>exact ⟨hd++[], .cons hv .nil,Sub.refl _⟩
 | @cons k' d' v' h hs l e h1 h2 ih=>
  rw [aJ,aJ]
  split
  ·exact ⟨hd++hs, .cons hv h2,Sub.app (Sub.refl _) Sub.right⟩
  ·obtain ⟨hs',h3,h4⟩:=ih
   refine ⟨h++hs', .cons h1 h3,Sub.trans (Sub.perm ?_) (Sub.app (Sub.refl h) h4)⟩
   rw [← List.append_assoc, ← List.append_assoc]
   exact List.perm_append_comm.append_right hs
theorem Ay (e:Env) (k:Nat) (v:Value):(aQ e k v).map (·.1)=if k∈e.map (·.1) then e.map (·.1) else e.map (·.1)++[k]:=by
 induction e with
 | nil=>rfl
 | cons p r ih=>
  obtain ⟨k',v'⟩:=p
  rw [aJ]
  by_cases h:k'=k
  ·subst h;simp
  ·rw [if_neg h]
   have hne: ¬ k=k':=fun e=>h e.symm
   simp only [List.map_cons,ih,List.mem_cons,hne,false_or]
   split<;>simp
theorem Ik {e:Env} {k:Nat} {v:Value} (hn:(e.map (·.1)).Nodup): ∀ p∈aQ e k v,p=(k,v)∨(p∈e∧p.1≠k):=by
 induction e with
 | nil=>intro p hp;exact .inl (by simpa [aQ] using hp)
 | cons q r ih=>
  obtain ⟨k',v'⟩:=q
  simp only [List.map_cons,List.nodup_cons] at hn
  intro p hp
  rw [aJ] at hp
  split at hp
  ·rename_i h
   subst h
   rcases List.mem_cons.1 hp with rfl | hp
   ·exact .inl rfl
   ·exact .inr ⟨List.mem_cons_of_mem _ hp,fun e'=>hn.1 (e'▸List.mem_map.2 ⟨p,hp,rfl⟩)⟩
  ·rename_i h
   rcases List.mem_cons.1 hp with rfl | hp
   ·exact .inr ⟨List.mem_cons_self,h⟩
   ·exact (ih hn.2 p hp).imp id fun h3=>⟨List.mem_cons_of_mem _ h3.1,h3.2⟩
theorem Ch {a:Act} {N:Nat} {e:Env} (h:Fr a N e) {d:Nat} {v:Value} (hN:d<N):Fr (a.put (some d) v) N (Lf.aQ e d v):=by
 have hlt:d<a.tmps.size:=by rw [h.size];exact hN
 refine ⟨by simp [Act.put,h.size],h.defers,?_,?_⟩
 ·intro p hp
  rcases Ik h.nd p hp with rfl | ⟨h1,h2⟩
  ·simp [Act.put,hlt]
  ·have:=h.val p h1
   simp only [Act.put,Array.getD_eq_getD_getElem?] at this ⊢
   rw [Array.getElem?_setIfInBounds_ne (Ne.symm h2)]
   exact this
 ·rw [Ay]
  split
  ·exact h.nd
  ·rename_i hk
   refine List.nodup_append.2 ⟨h.nd,by simp,?_⟩
   intro x hx y hy
   simp only [List.mem_singleton] at hy
   subst hy
   exact fun e'=>hk (e'▸hx)
theorem RD {φ:bL} {l:List Dn} {vs:List Value} {h:List Chunk} (ht:ji φ l vs h): ∀ {l':List Dn},BA l=some l'→ji φ l' vs []:=by
 induction ht with
 | nil=>intro l' e;simp only [BA,Option.some.injEq] at e;subst e;exact .nil
 | @cons t x cs h hs l vs h1 h2 h3 ih=>
  intro l' e
  unfold BA at e
  cases hc:coe t t.er x with
  | none=>rw [hc] at e;cases e
  | some y=>
   cases hl:BA l with
   | none=>rw [hc,hl] at e;cases e
   | some m=>
    rw [hc,hl] at e
    injection e with e
    subst e
    obtain ⟨h',r1,_⟩:=eP hc h2
    have:=Rp.aP (Ty.f_ t).symm r1
    subst this
    rw [qI hc cs]
    exact ji.cons (h:=[]) (hs:=[]) (jN hc h1) r1 (ih hl)
theorem IJ {W:d_} {d:D} {v:Value} {h:List Chunk} (hd:DR W d v h) (hne:d.j5≠ .und):DR W d.j5 v []:=by
 cases d with
 | v t x=>
  obtain ⟨cs,h1,h2,h3⟩:=hd
  cases hc:coe t t.er x with
  | none=>exact absurd (by unfold D.j5;simp only [hc]) hne
  | some y=>
   obtain ⟨h',h4,h5⟩:=eP hc h3
   have e1:D.j5 (.v t x)= .v t.er y:=by unfold D.j5;simp only [hc]
   have:=Rp.aP (Ty.f_ t).symm h4
   subst this
   rw [e1]
   exact ⟨cs,jN hc h1,by rw [h2];exact qI hc cs,h4⟩
 | BQ l=>
  obtain ⟨vs,h1,h2⟩:=hd
  cases hc:BA l with
  | none=>exact absurd (by unfold D.j5;simp only [hc]) hne
  | some m=>
   have e1:D.j5 (.BQ l)= .BQ m:=by unfold D.j5;simp only [hc]
   rw [e1]
   exact ⟨vs,h1,RD h2 hc⟩
 | und=>exact absurd rfl hne
 | uW=>exact ⟨hd.1,rfl⟩
 | Es=>exact ⟨hd.1,rfl⟩
 | RO=>exact ⟨hd.1,rfl⟩
 | EF=>exact ⟨hd.1,rfl⟩
 | ref j p o=>exact ⟨hd.1,rfl⟩
 | Ca t x=>obtain ⟨ad,cs,h1,h2,h3,_⟩:=hd;exact ⟨ad,cs,h1,h2,h3,rfl⟩
 | bO j p o=>exact ⟨hd.1,rfl⟩
 | xZ j p o n z q qo=>obtain ⟨A,m,cc,h1,h2,_⟩:=hd;exact ⟨A,m,cc,h1,h2,rfl⟩
 | xV j p o m z q qo=>exact ⟨hd.1,rfl⟩
 | fn f=>exact ⟨hd.1,rfl⟩
 | sJ j p o=>exact ⟨hd.1,rfl⟩
 | MK te j p o=>exact ⟨hd.1,rfl⟩
 | NQ j p o k n=>exact ⟨hd.1,rfl⟩
 | zR g n l=>exact ⟨hd.1,rfl⟩
theorem zL {W:d_} (c:Value) (hne:uh c≠ .und):DR W (uh c) c []:=by
 unfold uh at hne ⊢
 split at hne<;>first | exact absurd rfl hne | skip
 ·exact ⟨[_],rfl,rfl,rfl,rfl⟩
 ·exact ⟨[_],rfl,rfl,rfl,rfl⟩
 ·rename_i s
  refine ⟨[.string s],rfl,rfl,?_,rfl⟩
  show [Value.string s]=[iM.str s.data.toList]
  unfold iM.str
  simp
 ·exact ⟨rfl,rfl⟩
 ·exact ⟨rfl,rfl⟩
 ·exact ⟨rfl,rfl⟩
theorem fZ {W:d_} {S:St} {e:Env} {hs:List Chunk} (h:ay W S.env e hs) {x:Operand} (hne:S.raw x≠ .und): ∃ v h r,EV e x v∧DR W (S.raw x) v h∧hs.Perm (h++r):=by
 cases x with
 | tmp t=>
  cases hl:look S.env t with
  | none=>exact absurd (by simp only [St.raw,hl]) hne
  | some d=>
   obtain ⟨v,h1,r,h2,h3,h4⟩:=h.look hl
   have e1:S.raw (.tmp t)=d:=by simp only [St.raw,hl]
   rw [e1]
   exact ⟨v,h1,r, .t h2,h3,h4⟩
 | const c=>exact ⟨c,[],hs, .c,zL c hne,List.Perm.refl _⟩
 | global g=>exact absurd rfl hne
 | func f=>exact ⟨_,[],hs, .f,⟨rfl,rfl⟩,List.Perm.refl _⟩
theorem PO {d:D} (h:d.j5≠ .und):d≠ .und:=fun e=>h (by rw [e];rfl)
theorem get_nil {W:d_} {S:St} {e:Env} {hs:List Chunk} (h:ay W S.env e hs) {x:Operand} {d:D} (hd:S.get x=d) (hne:d≠ .und): ∃ v,EV e x v∧DR W d v []:=by
 subst hd
 obtain ⟨v,h1,r,h2,h3,_⟩:=fZ h (x:=x) (PO hne)
 exact ⟨v,h2,IJ h3 hne⟩
theorem bY {W:d_} {S:St} {e:Env} {hs:List Chunk} (h:ay W S.env e hs) {x:Operand} {d:D} (hd:S.get x=d) (hne:d≠ .und): ∃ v h',EV e x v∧DR W d v h':=by
 obtain ⟨v,h1,h2⟩:=get_nil h hd hne
 exact ⟨v,[],h1,h2⟩
theorem Ra {d:D} {t:Ty} {x:t.den} (h:d.j5= .v t x):t=t.er:=by
 cases d with
 | v t' x'=>
  unfold D.j5 at h
  cases hc:coe t' t'.er x' with
  | none=>simp only [hc] at h;cases h
  | some y=>
   simp only [hc] at h
   have:t'.er=t:=by injection h
   rw [← this,Ty.f_]
 | BQ l=>
  unfold D.j5 at h
  cases hc:BA l with
  | none=>simp only [hc] at h;cases h
  | some y=>simp only [hc] at h;cases h
 | _=>cases h
section
variable {W:d_} {S:St} {e:Env} {hs:List Chunk} {x:Operand}
theorem bD (h:ay W S.env e hs) {t:Ty} {y:t.den} (hd:S.get x= .v t y): ∃ cs,EV e x (sv t cs)∧Rp W.φ t y cs []∧t.top=true∧t=t.er:=by
 obtain ⟨v,h',h1,cs,h2,h3,h4⟩:=bY h hd (by intro e;cases e)
 have h5:=Ra hd
 have:=Rp.aP h5 h4
 subst this
 exact ⟨cs,h3▸h1,h4,h2,h5⟩
theorem ak (h:ay W S.env e hs) {k:IntKind} {a:Int} (hd:S.get x= .v (.int k) a):EV e x (.int k a):=by
 obtain ⟨cs,h1,h2,_⟩:=bD h hd
 obtain ⟨rfl,_⟩:=h2
 exact h1
theorem jl (h:ay W S.env e hs) {b:Bool} (hd:S.get x= .v .bool b):EV e x (.bool b):=by
 obtain ⟨cs,h1,h2,_⟩:=bD h hd
 obtain ⟨rfl,_⟩:=h2
 exact h1
theorem l5 (h:ay W S.env e hs) {l:List UInt8} (hd:S.get x= .v .str l):EV e x (iM.str l):=by
 obtain ⟨cs,h1,h2,_⟩:=bD h hd
 obtain ⟨rfl,_⟩:=h2
 exact h1
theorem bI (h:ay W S.env e hs) {j:Nat} {p:List Dir} {o:Nat} (hd:S.get x= .ref j p o):EV e x (.pointer (some ⟨W.aA j,o,none⟩)):=by
 obtain ⟨v,h',h1,rfl,_⟩:=bY h hd (by intro e;cases e)
 exact h1
theorem Cw (h:ay W S.env e hs) {j:Nat} {p q:List Dir} {o n sz qo:Nat} (hd:S.get x= .xV j p o (some n) sz q qo):EV e x (.pointer (some ⟨W.aA j,o+(n*sz+qo),none⟩)):=by
 obtain ⟨v,h',h1,rfl,_⟩:=bY h hd (by intro e;cases e)
 exact h1
theorem sN (h:ay W S.env e hs) {j:Nat} {p:List Dir} {o:Nat} (hd:S.get x= .bO j p o): ∃ v,EV e x v∧(W.hd j)[o]? =some v:=by
 obtain ⟨v,h',h1,h2,_⟩:=bY h hd (by intro e;cases e)
 exact ⟨v,h1,h2⟩
theorem I8 (h:ay W S.env e hs) (hd:S.get x= .uW):EV e x (.slice none 0 0):=by
 obtain ⟨v,h',h1,rfl,_⟩:=bY h hd (by intro e;cases e)
 exact h1
theorem Gy (h:ay W S.env e hs) {f:Nat} (hd:S.get x= .fn f):EV e x (.func (.func f) #[] #[]):=by
 obtain ⟨v,h',h1,rfl,_⟩:=bY h hd (by intro e;cases e)
 exact h1
end
end Go.Lf
/-
  More of what operations come to.
-/
namespace Go.iM
open Go Go.RowKit
def O3 (t:Array Value):Env→Prop
 | []=>True
 | p::r=>t.getD p.1 undef=p.2∧O3 t r
theorem O3.spec {t:Array Value} {e:Env} (h:O3 t e): ∀ p∈e,t.getD p.1 undef=p.2:=by
 induction e with
 | nil=>simp
 | cons p r ih=>
  intro q hq
  rcases List.mem_cons.1 hq with rfl | hq
  ·exact h.1
  ·exact ih h.2 q hq
def NJ (P:Program) (t:TypeId):Bool:=match P.underlying t with | some .bool=>true | _=>false
def Hf (P:Program) (t:TypeId):Bool:=match P.underlying t with | some (.pointer _)=>true | _=>false
def Ff (P:Program) (t el size bytes:Nat):Prop:= ∃ i0 z,P.underlying t=some (.slice el)∧P.info? el=some i0∧i0.zero=some z∧i0.size=size∧i0.bytes=bytes∧z.cells.size=size∧0<size
section
variable {P:Program} {N:Nat} {C:Cx} {Q:Exit→Act→World→Prop} {e e':Env} {hs hs':List Chunk} {I J:World→Prop}
variable {d:Option Tmp} {ty:TypeId} {pos:String} {af:Array Edge} {gd:Option (Nat×Bool)}
theorem fC {t:TypeId} {a b:Value} {r:Bool} {w:World} (h: ∀ n:Nat,(Op.equalIn (n+1) t a b).run P w= .ok r w):(Op.equal t a b).run P w= .ok r w:=by
 have:=h 9999
 simpa [Op.equal,Op.maxDepth] using this
theorem R.ZU {x y:Operand} {tx tyy:TypeId} {a b:Bool} (ht:NJ P tx=true) (hx:EV e x (.bool a)) (hy:EV e y (.bool b)):gP P N C e hs I ⟨d, .binOp .eql tx x y tyy,ty,pos,af,gd⟩ (.bool (decide (a=b))):=fun A w hf _=>by
 unfold NJ at ht
 split at ht
 ·rename_i hu
  have hb:(a ==b)=decide (a=b):=by cases a<;>cases b<;>rfl
  have h3:=fC (P:=P) (w:=w) (t:=tx) (a:= .bool a) (b:= .bool b) (r:=decide (a=b)) fun n=>by simp [Op.equalIn,run_underlying hu,hb]
  simp only [execOp,eqGuard,hf.ev hx,hf.ev hy,binOp]
  simp [h3]
 ·cases ht
theorem R.ZP {x y:Operand} {tx tyy:TypeId} {a b:Bool} (ht:NJ P tx=true) (hx:EV e x (.bool a)) (hy:EV e y (.bool b)):gP P N C e hs I ⟨d, .binOp .neq tx x y tyy,ty,pos,af,gd⟩ (.bool (decide (a≠b))):=fun A w hf _=>by
 unfold NJ at ht
 split at ht
 ·rename_i hu
  have hb:(a ==b)=decide (a=b):=by cases a<;>cases b<;>rfl
  have h3:=fC (P:=P) (w:=w) (t:=tx) (a:= .bool a) (b:= .bool b) (r:=decide (a=b)) fun n=>by simp [Op.equalIn,run_underlying hu,hb]
  simp only [execOp,eqGuard,hf.ev hx,hf.ev hy,binOp]
  simp [h3]
 ·cases ht
theorem R.Kc {x y:Operand} {tx tyy:TypeId} {a:Addr} (ht:Hf P tx=true) (hx:EV e x (.pointer (some a))) (hy:EV e y (.pointer none):=by exact .c):gP P N C e hs I ⟨d, .binOp .eql tx x y tyy,ty,pos,af,gd⟩ (.bool false):=fun A w hf _=>by
 unfold Hf at ht
 split at ht
 ·rename_i hu
  have h3:=fC (P:=P) (w:=w) (t:=tx) (a:= .pointer (some a)) (b:= .pointer none) (r:=false) fun n=>by simp [Op.equalIn,run_underlying hu]
  simp only [execOp,eqGuard,hf.ev hx,hf.ev hy,binOp]
  simp [h3]
 ·cases ht
theorem R.JZ {x y:Operand} {tx tyy:TypeId} {a:Addr} (ht:Hf P tx=true) (hx:EV e x (.pointer (some a))) (hy:EV e y (.pointer none):=by exact .c):gP P N C e hs I ⟨d, .binOp .neq tx x y tyy,ty,pos,af,gd⟩ (.bool true):=fun A w hf _=>by
 unfold Hf at ht
 split at ht
 ·rename_i hu
  have h3:=fC (P:=P) (w:=w) (t:=tx) (a:= .pointer (some a)) (b:= .pointer none) (r:=false) fun n=>by simp [Op.equalIn,run_underlying hu]
  simp only [execOp,eqGuard,hf.ev hx,hf.ev hy,binOp]
  simp [h3]
 ·cases ht
def Xv (P:Program) (s f n:Nat):Bool:=match P.underlying s with
 | some (.struct fs)=>(match fs[f]? with | some x=>Bw P x.type n | none=>false)
 | _=>false
inductive Parts (P:Program) (s:Nat) (e:Env):List Value→List (Nat×Operand)→List Value→Prop
 | nil {z:List Value}:Parts P s e z [] z
 | cons {z z1 z2:List Value} {f o n:Nat} {x:Operand} {v:Value} {vs:List Value} {r:List (Nat×Operand)}:Lt P s f o=true→Xv P s f n=true→vs.length=n→EV e x v→v.cells=vs.toArray→Ee z o vs z1→Parts P s e z1 r z2→Parts P s e z ((f,x)::r) z2
theorem Mw (vs:List Value): ∀ (k:Nat) (cs:Array Value),k+vs.length≤cs.size→((vs.zipIdx k).foldl (fun cs (p:Value×Nat)=>cs.setIfInBounds p.2 p.1) cs).toList=cs.toList.take k++vs++cs.toList.drop (k+vs.length):=by
 induction vs with
 | nil=>intro k cs _;simp
 | cons v r ih=>
  intro k cs hk
  simp only [List.length_cons] at hk
  simp only [List.zipIdx_cons,List.foldl_cons]
  rw [ih (k+1) _ (by simp;omega)]
  have hkl:k<cs.toList.length:=by simp;omega
  simp only [Array.toList_setIfInBounds]
  rw [List.take_set,List.drop_set_of_lt (by omega)]
  rw [List.set_eq_take_append_cons_drop,if_pos (by simp;omega)]
  simp only [List.take_take,List.length_cons]
  rw [Nat.min_eq_left (by omega),List.drop_take]
  simp [show k+1+r.length=k+(r.length+1) by omega]
theorem t_ (vs:List Value) (o:Nat) (cs:Array Value) (h:o+vs.length≤cs.size):
  (vs.toArray.zipIdx.foldl (fun cs (c,j)=>cs.setIfInBounds (o+j) c) cs).toList=cs.toList.take o++vs++cs.toList.drop (o+vs.length):=by
 have key: ∀ (vs:List Value) (k:Nat) (cs:Array Value),((vs.zipIdx k).foldl (fun cs (p:Value×Nat)=>cs.setIfInBounds (o+p.2) p.1) cs)=((vs.zipIdx (o+k)).foldl (fun cs (p:Value×Nat)=>cs.setIfInBounds p.2 p.1) cs):=by
  intro vs
  induction vs with
  | nil=>intro k cs;rfl
  | cons v r ih=>intro k cs;simp only [List.zipIdx_cons,List.foldl_cons];exact ih (k+1) _
 have h1:=Mw vs o cs h
 have h2:=key vs 0 cs
 simp only [Nat.add_zero] at h2
 rw [← h1, ← h2]
 simp
theorem BG {P:Program} {fs:List Field} {w:World} (h: ∀ f:Field,f∈fs→ ∃ i,P.info? f.type=some i):
  ∃ pl:List (Nat×Nat),(fs.mapM fun (f:Field)=>do pure (f.offset, ← sizeOf f.type)).run P w= .ok pl w∧pl=fs.map fun (f:Field)=>(f.offset,((P.info? f.type).map (·.size)).getD 0):=by
 induction fs with
 | nil=>exact ⟨[],by simp,rfl⟩
 | cons f r ih=>
  obtain ⟨pl,h1,h2⟩:=ih fun g hg=>h g (List.mem_cons_of_mem _ hg)
  obtain ⟨i,hi⟩:=h f List.mem_cons_self
  refine ⟨(f.offset,i.size)::pl,?_,by simp [h2,hi]⟩
  have h3: ∀ w,(sizeOf f.type).run P w= .ok i.size w:=fun w=>by simp [sizeOf,typeInfo,hi]
  simp only [List.mapM_cons,Sem.run_bind,h3,Result.andThen_ok,Sem.run_pure]
  rw [h1]
  rfl
def GX (P:Program) (fs:Array Field):Bool:=fs.all fun f=>(P.info? f.type).isSome
theorem R.Yh {s:TypeId} {fs:Array Field} {parts:List (Nat×Operand)} {z l:List Value} (hs1:P.underlying s=some (.struct fs)) (hall:GX P fs=true) (hz:tZ P s z) (hp:Parts P s e z parts l):
  gP P N C e hs I ⟨d, .build s parts.toArray,ty,pos,af,gd⟩ (.agg l.toArray):=fun A w hf _=>by
 obtain ⟨i,zv,h1,h2,h3⟩:=hz
 obtain ⟨pl,hpl,hpl2⟩:=BG (P:=P) (w:=w) (fs:=fs.toList) fun f hf=>by
  have:=Array.all_eq_true_iff_forall_mem.1 hall f (by simpa using hf)
  exact Option.isSome_iff_exists.1 this
 have hplA:(fs.mapM fun (f:Field)=>do pure (f.offset, ← sizeOf f.type)).run P w= .ok pl.toArray w:=by
  rw [← Array.toArray_toList (xs:=fs),List.mapM_toArray]
  simp only [Sem.run_map]
  rw [hpl]
  rfl
 have hfill: ∀ (z:List Value) (parts:List (Nat×Operand)) (l:List Value),Parts P s e z parts l→Instr.fill (pl.toArray[·]?) z.toArray (parts.map fun (i,x)=>(i,A.eval x))=some l.toArray:=by
  intro z parts l hp
  induction hp with
  | nil=>rfl
  | @cons z z1 z2 f o n x v vs r hfo hfz hn hx hv hput _ ih=>
   obtain ⟨fs',x',i',h4,h5,h6,h7,h8⟩:=zt hfo
   have:fs'=fs:=by
    have:=h4.symm.trans hs1
    injection this with this
    injection this
   subst this
   have hsz:i'.size=vs.length:=by
    unfold Xv at hfz
    rw [hs1] at hfz
    simp only [h5] at hfz
    obtain ⟨i2,h9,h10⟩:=tK hfz
    have:i2=i':=Option.some.inj (h9.symm.trans h6)
    rw [← this,h10,hn]
   have hsp:=hput.spec
   have hpf:(pl.toArray[f]? :Option (Nat×Nat))=some (o,i'.size):=by
    have hfx:fs'.toList[f]? =some x':=by simpa using h5
    simp [hpl2,hfx,h6,h8]
   have hvs:A.eval x=v:=hf.ev hx
   simp only [List.map_cons,Instr.fill,hpf,hvs,hv]
   rw [if_neg (by simp [hsz];omega)]
   have h11:vs.toArray.zipIdx.foldl (fun cs (c,j)=>cs.setIfInBounds (o+j) c) z.toArray=z1.toArray:=by
    apply Array.ext'
    rw [t_ vs o z.toArray (by simpa using hsp.1)]
    simpa using hsp.2.symm
   rw [h11]
   exact ih
 have h12:=hfill z parts l hp
 simp only [execOp,Instr.build,zeroValue,typeInfo]
 simp at hplA h12
 simp [h1,h2,h3,run_underlying hs1,hplA,h12]
inductive Am (P:Program) (el:Nat) (e:Env):List Value→List (Nat×Operand)→List Value→Prop
 | nil {z:List Value}:Am P el e z [] z
 | cons {z z1 z2:List Value} {f n:Nat} {x:Operand} {v:Value} {vs:List Value} {r:List (Nat×Operand)}:Bw P el n=true→vs.length=n→EV e x v→v.cells=vs.toArray→Ee z (f*n) vs z1→Am P el e z1 r z2→Am P el e z ((f,x)::r) z2
theorem R.YF {s el n m:Nat} {parts:List (Nat×Operand)} {z l:List Value} (hs1:P.underlying s=some (.array n el)) (hm:Bw P el m=true) (hz:tZ P s z) (hp:Am P el e z parts l):
  gP P N C e hs I ⟨d, .build s parts.toArray,ty,pos,af,gd⟩ (.agg l.toArray):=fun A w hf _=>by
 obtain ⟨i,zv,h1,h2,h3⟩:=hz
 have hfill: ∀ (m:Nat),Bw P el m=true→ ∀ (z:List Value) (parts:List (Nat×Operand)) (l:List Value),Am P el e z parts l→Instr.fill (fun i=>some (i*m,m)) z.toArray (parts.map fun (i,x)=>(i,A.eval x))=some l.toArray:=by
  intro m hm z parts l hp
  induction hp with
  | nil=>rfl
  | @cons z z1 z2 f n x v vs r hsz hn hx hv hput _ ih=>
   have hnm:n=m:=by
    obtain ⟨i1,a1,a2⟩:=tK hsz
    obtain ⟨i2,b1,b2⟩:=tK hm
    rw [a1] at b1
    injection b1 with b1
    rw [← a2, ← b2,b1]
   subst hnm
   have hsp:=hput.spec
   have hvs:A.eval x=v:=hf.ev hx
   simp only [List.map_cons,Instr.fill,hvs,hv]
   rw [if_neg (by simp [hn];omega)]
   have h11:vs.toArray.zipIdx.foldl (fun cs (c,j)=>cs.setIfInBounds (f*n+j) c) z.toArray=z1.toArray:=by
    apply Array.ext'
    rw [t_ vs (f*n) z.toArray (by simpa using hsp.1)]
    simpa using hsp.2.symm
   rw [h11]
   exact ih
 have h12:=hfill m hm z parts l hp
 have h13:=bG (P:=P) hm w
 simp only [execOp,Instr.build,zeroValue,typeInfo]
 simp at h12
 simp [h1,h2,h3,run_underlying hs1,h13,h12]
end
section
variable {P:Program} {N:Nat} {C:Cx} {Q:Exit→Act→World→Prop} {e e':Env} {hs hs':List Chunk} {I J:World→Prop}
variable {d:Option Tmp} {ty:TypeId} {pos:String} {af:Array Edge} {gd:Option (Nat×Bool)}
theorem R.slnil {x y:Operand} {tx tyy el s:TypeId} {A:Option Addr} {n c:Nat} (ht:QT P tx el s=true) (hx:EV e x (.slice A n c)) (hy:EV e y (.slice none 0 0):=by exact .c):gP P N C e hs I ⟨d, .binOp .eql tx x y tyy,ty,pos,af,gd⟩ (.bool A.isNone):=fun a w hf _=>by
 have hu:=(dM ht).1
 have h3:=fC (P:=P) (w:=w) (t:=tx) (a:= .slice A n c) (b:= .slice none 0 0) (r:=A.isNone) fun m=>by cases A<;>simp [Op.equalIn,run_underlying hu]
 simp only [execOp,eqGuard,hf.ev hx,hf.ev hy,binOp]
 simp [h3]
def Ow (P:Program) (t:TypeId):Bool:=match P.underlying t with | some (.interface _)=>true | _=>false
theorem wD {P:Program} {t:TypeId} (h:Ow P t=true): ∃ m,P.underlying t=some (.interface m):=by
 unfold Ow at h
 split at h
 ·rename_i m hm;exact ⟨m,hm⟩
 ·cases h
theorem R.SY {x:Operand} {tx tyy:TypeId} (ht:Ow P tx=true) (hx:EV e x .nilIface):gP P N C e hs I ⟨d, .binOp .neq tx x (.const .nilIface) tyy,ty,pos,af,gd⟩ (.bool false):=fun a w hf _=>by
 obtain ⟨m,hu⟩:=wD ht
 have h3:=fC (P:=P) (w:=w) (t:=tx) (a:= .nilIface) (b:= .nilIface) (r:=true) fun m=>by simp [Op.equalIn,run_underlying hu]
 have hy:a.eval (.const .nilIface)= .nilIface:=rfl
 simp only [execOp,eqGuard,hf.ev hx,hy,binOp]
 simp [h3]
theorem R.SX {x:Operand} {tx tyy u:TypeId} {v:Value} (ht:Ow P tx=true) (hx:EV e x (.iface u v)):gP P N C e hs I ⟨d, .binOp .neq tx x (.const .nilIface) tyy,ty,pos,af,gd⟩ (.bool true):=fun a w hf _=>by
 obtain ⟨m,hu⟩:=wD ht
 have h3:=fC (P:=P) (w:=w) (t:=tx) (a:= .iface u v) (b:= .nilIface) (r:=false) fun m=>by simp [Op.equalIn,run_underlying hu]
 have hy:a.eval (.const .nilIface)= .nilIface:=rfl
 simp only [execOp,eqGuard,hf.ev hx,hy,binOp]
 simp [h3]
theorem R.Tu {x:Operand} {tx tyy:TypeId} (ht:Ow P tx=true) (hx:EV e x .nilIface):gP P N C e hs I ⟨d, .binOp .eql tx x (.const .nilIface) tyy,ty,pos,af,gd⟩ (.bool true):=fun a w hf _=>by
 obtain ⟨m,hu⟩:=wD ht
 have h3:=fC (P:=P) (w:=w) (t:=tx) (a:= .nilIface) (b:= .nilIface) (r:=true) fun m=>by simp [Op.equalIn,run_underlying hu]
 have hy:a.eval (.const .nilIface)= .nilIface:=rfl
 simp only [execOp,eqGuard,hf.ev hx,hy,binOp]
 simp [h3]
theorem R.Te {x:Operand} {tx tyy u:TypeId} {v:Value} (ht:Ow P tx=true) (hx:EV e x (.iface u v)):gP P N C e hs I ⟨d, .binOp .eql tx x (.const .nilIface) tyy,ty,pos,af,gd⟩ (.bool false):=fun a w hf _=>by
 obtain ⟨m,hu⟩:=wD ht
 have h3:=fC (P:=P) (w:=w) (t:=tx) (a:= .iface u v) (b:= .nilIface) (r:=false) fun m=>by simp [Op.equalIn,run_underlying hu]
 have hy:a.eval (.const .nilIface)= .nilIface:=rfl
 simp only [execOp,eqGuard,hf.ev hx,hy,binOp]
 simp [h3]
def Tk (P:Program) (t:TypeId):Bool:=match P.info? t with | some i=>(match i.zero with | some (.pointer none)=>true | _=>false) | none=>false
def Ut (P:Program) (t:TypeId):Bool:=match P.info? t with | some i=>(match i.zero with | some .nilIface=>true | _=>false) | none=>false
theorem Dx {P:Program} {t:TypeId} (h:Tk P t=true): ∃ i,P.info? t=some i∧i.zero=some (.pointer none):=by
 unfold Tk at h
 split at h
 ·rename_i i hi
  split at h
  ·rename_i hz;exact ⟨i,hi,hz⟩
  ·cases h
 ·cases h
theorem PU {P:Program} {t:TypeId} (h:Ut P t=true): ∃ i,P.info? t=some i∧i.zero=some .nilIface:=by
 unfold Ut at h
 split at h
 ·rename_i i hi
  split at h
  ·rename_i hz;exact ⟨i,hi,hz⟩
  ·cases h
 ·cases h
theorem wy {P:Program} {t:TypeId} (h:Hf P t=true): ∃ q,P.underlying t=some (.pointer q):=by
 unfold Hf at h
 split at h
 ·rename_i q hq;exact ⟨q,hq⟩
 ·cases h
theorem R.LG {x:Operand} {tx tyy:TypeId} (ht:Hf P tx=true) (hx:EV e x (.pointer none)):gP P N C e hs I ⟨d, .binOp .eql tx x (.const (.pointer none)) tyy,ty,pos,af,gd⟩ (.bool true):=fun A w hf _=>by
 obtain ⟨q,hu⟩:=wy ht
 have h3:=fC (P:=P) (w:=w) (t:=tx) (a:= .pointer none) (b:= .pointer none) (r:=true) fun n=>by simp [Op.equalIn,run_underlying hu]
 have hy:A.eval (.const (.pointer none))= .pointer none:=rfl
 simp only [execOp,eqGuard,hf.ev hx,hy,binOp]
 simp [h3]
theorem R.LJ {x:Operand} {tx tyy:TypeId} (ht:Hf P tx=true) (hx:EV e x (.pointer none)):gP P N C e hs I ⟨d, .binOp .neq tx x (.const (.pointer none)) tyy,ty,pos,af,gd⟩ (.bool false):=fun A w hf _=>by
 obtain ⟨q,hu⟩:=wy ht
 have h3:=fC (P:=P) (w:=w) (t:=tx) (a:= .pointer none) (b:= .pointer none) (r:=true) fun n=>by simp [Op.equalIn,run_underlying hu]
 have hy:A.eval (.const (.pointer none))= .pointer none:=rfl
 simp only [execOp,eqGuard,hf.ev hx,hy,binOp]
 simp [h3]
theorem R.ZC {x:Operand} {xt u:TypeId} {v:Value} (ht:Hf P u=true) (hx:EV e x (.iface u v)):gP P N C e hs I ⟨d, .typeAssert x xt u true,ty,pos,af,gd⟩ (.tuple #[v, .bool true]):=fun A w hf _=>by
 obtain ⟨q,hu⟩:=wy ht
 simp [execOp,Instr.typeAssert,run_underlying hu,hf.ev hx]
theorem R.Zm {x:Operand} {xt u t:TypeId} {v:Value} (ht:Hf P u=true) (hz:Tk P u=true) (hx:EV e x (.iface t v)) (hn:t≠u):gP P N C e hs I ⟨d, .typeAssert x xt u true,ty,pos,af,gd⟩ (.tuple #[.pointer none, .bool false]):=fun A w hf _=>by
 obtain ⟨q,hu⟩:=wy ht
 obtain ⟨i,h1,h2⟩:=Dx hz
 simp [execOp,Instr.typeAssert,run_underlying hu,hf.ev hx,hn,zeroValue,typeInfo,h1,h2]
theorem R.tan {x:Operand} {xt u:TypeId} (ht:Hf P u=true) (hz:Tk P u=true) (hx:EV e x .nilIface):gP P N C e hs I ⟨d, .typeAssert x xt u true,ty,pos,af,gd⟩ (.tuple #[.pointer none, .bool false]):=fun A w hf _=>by
 obtain ⟨q,hu⟩:=wy ht
 obtain ⟨i,h1,h2⟩:=Dx hz
 simp [execOp,Instr.typeAssert,run_underlying hu,hf.ev hx,zeroValue,typeInfo,h1,h2]
theorem R.Zk {x:Operand} {xt u:TypeId} (ht:Ow P u=true) (hz:Ut P u=true) (hx:EV e x .nilIface):gP P N C e hs I ⟨d, .typeAssert x xt u true,ty,pos,af,gd⟩ (.tuple #[.nilIface, .bool false]):=fun A w hf _=>by
 obtain ⟨m,hu⟩:=wD ht
 obtain ⟨i,h1,h2⟩:=PU hz
 simp [execOp,Instr.typeAssert,run_underlying hu,hf.ev hx,zeroValue,typeInfo,h1,h2]
theorem uP {el:TypeId} {k:IntKind} (hu:P.underlying el=some (.int k)) (dp:Nat) (w:World): ∀ (js:List Nat) (xs ys:Array Value) (l m:List Int),(∀ j∈js, ∃ a b,l[j]? =some a∧m[j]? =some b∧xs[j]? =some (.int k a)∧ys[j]? =some (.int k b))→
  (Op.eqItems (dp+1) el 1 xs ys js).run P w= .ok (decide (∀ j∈js,l[j]? =m[j]?)) w
 | [],xs,ys,l,m,h=>by simp [Op.eqItems]
 | j::js,xs,ys,l,m,h=>by
  obtain ⟨a,b,h1,h2,h3,h4⟩:=h j List.mem_cons_self
  have p1:(part el xs (j*1)).run P w= .ok (.int k a) w:=by rw [Nat.mul_one];simp [part,isAgg,run_underlying hu,h3]
  have p2:(part el ys (j*1)).run P w= .ok (.int k b) w:=by rw [Nat.mul_one];simp [part,isAgg,run_underlying hu,h4]
  simp only [Op.eqItems,Sem.run_bind,p1,p2,Result.andThen_ok,run_equalIn_int w dp el k k a b hu]
  by_cases hab:a=b
  ·subst hab
   simp only [beq_self_eq_true,Bool.not_true,Bool.false_eq_true,if_false]
   rw [uP hu dp w js xs ys l m fun j hj=>h j (List.mem_cons_of_mem _ hj)]
   congr 1
   exact decide_eq_decide.2 (by simp [h1,h2])
  ·have:(a ==b)=false:=by simpa using hab
   rw [this]
   simp only [Bool.not_false,if_true,Sem.run_pure]
   congr 1
   symm
   simp only [decide_eq_false_iff_not]
   intro hh
   have:=hh j List.mem_cons_self
   rw [h1,h2] at this
   exact hab (Option.some.inj this)
theorem AV {tx el:TypeId} {n:Nat} {k:IntKind} {l m:List Int} (hu:P.underlying tx=some (.array n el)) (he:yG P el k=true) (hsz:Bw P el 1=true) (hl:l.length=n) (hm:m.length=n) (w:World):
  (Op.equalIn 10000 tx (.agg (l.map (Value.int k)).toArray) (.agg (m.map (Value.int k)).toArray)).run P w= .ok (decide (l=m)) w:=by
 have hk:P.underlying el=some (.int k):=by
  unfold yG at he
  split at he
  ·rename_i k' hk';rw [of_decide_eq_true he];exact hk'
  ·cases he
 unfold Bw at hsz
 split at hsz
 ·rename_i i hi
  have hc:P.cellsOf el=1:=by unfold Program.cellsOf;rw [hi];exact Nat.eq_of_beq_eq_true hsz
  rw [run_equalIn_array w 9999 _ _ hu hi,hc,uP hk 9998 w (List.range n) _ _ l m fun j hj=>?_]
  ·congr 1
   refine decide_eq_decide.2 ⟨fun h=>List.ext_getElem? fun j=>?_,fun h j _=>by rw [h]⟩
   by_cases hj:j<n
   ·exact h j (List.mem_range.2 hj)
   ·rw [List.getElem?_eq_none (by omega),List.getElem?_eq_none (by omega)]
  ·have hj:=List.mem_range.1 hj
   exact ⟨l[j],m[j],List.getElem?_eq_getElem (by omega),List.getElem?_eq_getElem (by omega),by simp [hl,hj],by simp [hm,hj]⟩
 ·cases hsz
theorem zD {tx el:TypeId} {n:Nat} {k:IntKind} (hu:P.underlying tx=some (.array n el)) (he:yG P el k=true):P.eqGuardType P.depth tx=false:=by
 have hk:P.underlying el=some (.int k):=by
  unfold yG at he
  split at he
  ·rename_i k' hk';rw [of_decide_eq_true he];exact hk'
  ·cases he
 show P.eqGuardType (2*(P.types.size+Made.depth)+2) tx=false
 simp [Program.eqGuardType,hu,hk]
theorem R.Y7 {x y:Operand} {tx tyy el:TypeId} {n:Nat} {k:IntKind} {l m:List Int} (hu:P.underlying tx=some (.array n el)) (he:yG P el k=true) (hsz:Bw P el 1=true) (hl:l.length=n) (hm:m.length=n)
  (hx:EV e x (.agg (l.map (Value.int k)).toArray)) (hy:EV e y (.agg (m.map (Value.int k)).toArray)):gP P N C e hs I ⟨d, .binOp .eql tx x y tyy,ty,pos,af,gd⟩ (.bool (decide (l=m))):=fun A w hf _=>by
 have h1:=run_eqGuard_agg (P:=P) w .eql tx x y (l.map (Value.int k)).toArray (m.map (Value.int k)).toArray (zD hu he)
 simp only [execOp,hf.ev hx,hf.ev hy]
 simp [h1,run_eql_struct,AV hu he hsz hl hm w,Result.andThen]
theorem R.near {x y:Operand} {tx tyy el:TypeId} {n:Nat} {k:IntKind} {l m:List Int} (hu:P.underlying tx=some (.array n el)) (he:yG P el k=true) (hsz:Bw P el 1=true) (hl:l.length=n) (hm:m.length=n)
  (hx:EV e x (.agg (l.map (Value.int k)).toArray)) (hy:EV e y (.agg (m.map (Value.int k)).toArray)):gP P N C e hs I ⟨d, .binOp .neq tx x y tyy,ty,pos,af,gd⟩ (.bool (!decide (l=m))):=fun A w hf _=>by
 have h1:=run_eqGuard_agg (P:=P) w .neq tx x y (l.map (Value.int k)).toArray (m.map (Value.int k)).toArray (zD hu he)
 simp only [execOp,hf.ev hx,hf.ev hy]
 simp [h1,run_neq_struct,AV hu he hsz hl hm w,Result.andThen]
end
section
variable {P:Program} {N:Nat} {C:Cx} {Q:Exit→Act→World→Prop} {e e':Env} {hs hs':List Chunk} {I J:World→Prop}
variable {d:Option Tmp} {ty:TypeId} {pos:String} {af:Array Edge} {gd:Option (Nat×Bool)}
def TL (P:Program) (t e:TypeId):Bool:=(match P.underlying t with | some (.slice e')=>Nat.beq e e' | _=>false) && (match P.underlying e with | some (.int .u8)=>true | _=>false)
end
def FT:List Value→Value
 | [x]=>x
 | vs=> .tuple vs.toArray
end Go.iM
/-
  Operations that leave all but their slot as it is.
-/
namespace Go.Lf
open Go Go.iM
theorem Bq {α:Type} {a b c a' b' c':List α} (h:a++b++c=a'++b'++c') (h1:a.length=a'.length) (h2:b.length=b'.length):a=a'∧b=b'∧c=c':=by
 rw [List.append_assoc,List.append_assoc] at h
 obtain ⟨e1,e2⟩:=List.append_inj h h1
 obtain ⟨e3,e4⟩:=List.append_inj e2 h2
 exact ⟨e1,e3,e4⟩
theorem sD {φ:bL}: ∀ {t:Ty} {p:List Dir} {x:t.den} {y:Dn} {cs:List Value} {h:List Chunk},aU t p x=some y→Rp φ t x cs h→
  ∃ pre mid post h1 h2 h3,cs=pre++mid++post∧pre.length=aH t p∧h=h1++h2++h3∧Rp φ y.1 y.2 mid h2
 | t,[],x,y,cs,h=>by
  intro e r
  have:y=⟨t,x⟩:=by unfold aU at e;simpa using e.symm
  subst this
  exact ⟨[],cs,[],[],h,[],by simp,by cases t<;>rfl,by simp,r⟩
 | .st t, .i::p,x,y,cs,h=>fun e r=>by
  obtain ⟨pre,mid,post,h1,h2,h3,q1,q2,q3,q4⟩:=sD (t:=t) (p:=p) e r
  exact ⟨pre,mid,post,h1,h2,h3,q1,q2,q3,q4⟩
 | .pr a b, .l::p,x,y,cs,h=>fun e r=>by
  obtain ⟨c1,c2,k1,k2,e1,e2,r1,r2⟩:=r
  obtain ⟨pre,mid,post,h1,h2,h3,q1,q2,q3,q4⟩:=sD (t:=a) (p:=p) e r1
  exact ⟨pre,mid,post++c2,h1,h2,h3++k2,by rw [e1,q1];simp,q2,by rw [e2,q3];simp,q4⟩
 | .pr a b, .r::p,x,y,cs,h=>fun e r=>by
  obtain ⟨c1,c2,k1,k2,e1,e2,r1,r2⟩:=r
  obtain ⟨pre,mid,post,h1,h2,h3,q1,q2,q3,q4⟩:=sD (t:=b) (p:=p) e r2
  exact ⟨c1++pre,mid,post,k1++h1,h2,h3,by rw [e1,q1];simp,by rw [List.length_append,q2,r1.len];rfl,by rw [e2,q3];simp,q4⟩
 | .int _,_::_,_,_,_,_=>fun e _=>by simp [aU] at e
 | .bool,_::_,_,_,_,_=>fun e _=>by simp [aU] at e
 | .str,_::_,_,_,_,_=>fun e _=>by simp [aU] at e
 | .unit,_::_,_,_,_,_=>fun e _=>by simp [aU] at e
 | .it,_::_,_,_,_,_=>fun e _=>by simp [aU] at e
 | .xX,_::_,_,_,_,_=>fun e _=>by simp [aU] at e
 | .dead _ _,_::_,_,_,_,_=>fun e _=>by simp [aU] at e
 | .sl _,_::_,_,_,_,_=>fun e _=>by simp [aU] at e
 | .rw _ _,_::_,_,_,_,_=>fun e _=>by simp [aU] at e
 | .mr _ _,_::_,_,_,_,_=>fun e _=>by simp [aU] at e
 | .ptr _,_::_,_,_,_,_=>fun e _=>by simp [aU] at e
 | .eb _ _,_::_,_,_,_,_=>fun e _=>by simp [aU] at e
 | .op _,_::_,_,_,_,_=>fun e _=>by simp [aU] at e
 | .bx _ _,_::_,_,_,_,_=>fun e _=>by simp [aU] at e
 | .on _,_::_,_,_,_,_=>fun e _=>by simp [aU] at e
 | .fl _,_::_,_,_,_,_=>fun e _=>by simp [aU] at e
 | .bo _ _,_::_,_,_,_,_=>fun e _=>by simp [aU] at e
 | .bn,_::_,_,_,_,_=>fun e _=>by simp [aU] at e
 | .tr,_::_,_,_,_,_=>fun e _=>by simp [aU] at e
 | .ml _ _ _,_::_,_,_,_,_=>fun e _=>by simp [aU] at e
 | .st _, .l::_,_,_,_,_=>fun e _=>by cases e
 | .st _, .r::_,_,_,_,_=>fun e _=>by cases e
 | .pr _ _, .i::_,_,_,_,_=>fun e _=>by cases e
theorem iC {φ:bL}: ∀ {t:Ty} {p:List Dir} {y:Dn} {x:t.den} {z:Dn} {cs:List Value} {h:List Chunk},bN t p y x=some z→Rp φ t x cs h→
  ∃ pre mid post h1 h2 h3 s,aU t p x=some s∧y.1.er=s.1.er∧cs=pre++mid++post∧pre.length=aH t p∧h=h1++h2++h3∧Rp φ s.1 s.2 mid h2∧z.1.er=t.er∧aH z.1 p=aH t p∧
   ∀ ψ mid' h2',φ.le ψ→Rp ψ y.1 y.2 mid' h2'→Rp ψ z.1 z.2 (pre++mid'++post) (h1++h2'++h3)
 | t,[],y,x,z,cs,h=>by
  intro e r
  unfold bN at e
  split at e
  ·rename_i he
   simp only [Option.some.injEq] at e
   subst e
   refine ⟨[],cs,[],[],h,[],⟨t,x⟩,by unfold aU;rfl,he,by simp,by cases t<;>rfl,by simp,r,he,?_,fun ψ mid' h2' _ r'=>by simpa using r'⟩
   cases t<;>(cases y;rename_i s _;cases s<;>rfl)
  ·cases e
 | .st t, .i::p,y,x,z,cs,h=>fun e r=>by
  unfold bN at e
  split at e
  ·rename_i z' hz
   simp only [Option.some.injEq] at e
   subst e
   obtain ⟨pre,mid,post,h1,h2,h3,s,q0,q1,q2,q3,q4,q5,q6,q7,q8⟩:=iC (t:=t) (p:=p) hz r
   exact ⟨pre,mid,post,h1,h2,h3,s,q0,q1,q2,q3,q4,q5,by simp [Ty.er,q6],q7,q8⟩
  ·cases e
 | .pr a b, .l::p,y,x,z,cs,h=>fun e r=>by
  unfold bN at e
  split at e
  ·rename_i z' hz
   simp only [Option.some.injEq] at e
   subst e
   obtain ⟨c1,c2,k1,k2,e1,e2,r1,r2⟩:=r
   obtain ⟨pre,mid,post,h1,h2,h3,s,q0,q1,q2,q3,q4,q5,q6,q7,q8⟩:=iC (t:=a) (p:=p) hz r1
   refine ⟨pre,mid,post++c2,h1,h2,h3++k2,s,q0,q1,by rw [e1,q2];simp,q3,by rw [e2,q4];simp,q5,by simp [Ty.er,q6],q7,fun ψ mid' h2' hle r'=>?_⟩
   exact ⟨pre++mid'++post,c2,h1++h2'++h3,k2,by simp,by simp,q8 ψ mid' h2' hle r',r2.mono hle⟩
  ·cases e
 | .pr a b, .r::p,y,x,z,cs,h=>fun e r=>by
  unfold bN at e
  split at e
  ·rename_i z' hz
   simp only [Option.some.injEq] at e
   subst e
   obtain ⟨c1,c2,k1,k2,e1,e2,r1,r2⟩:=r
   obtain ⟨pre,mid,post,h1,h2,h3,s,q0,q1,q2,q3,q4,q5,q6,q7,q8⟩:=iC (t:=b) (p:=p) hz r2
   refine ⟨c1++pre,mid,post,k1++h1,h2,h3,s,q0,q1,by rw [e1,q2];simp,by rw [List.length_append,q3,r1.len];rfl,by rw [e2,q4];simp,q5,by simp [Ty.er,q6],?_,fun ψ mid' h2' hle r'=>?_⟩
   ·show a.size+aH z'.1 p=a.size+aH b p
    rw [q7]
   ·exact ⟨c1,pre++mid'++post,k1,h1++h2'++h3,by simp,by simp,r1.mono hle,q8 ψ mid' h2' hle r'⟩
  ·cases e
 | .int _,_::_,_,_,_,_,_=>fun e _=>by simp [bN] at e
 | .bool,_::_,_,_,_,_,_=>fun e _=>by simp [bN] at e
 | .str,_::_,_,_,_,_,_=>fun e _=>by simp [bN] at e
 | .unit,_::_,_,_,_,_,_=>fun e _=>by simp [bN] at e
 | .it,_::_,_,_,_,_,_=>fun e _=>by simp [bN] at e
 | .xX,_::_,_,_,_,_,_=>fun e _=>by simp [bN] at e
 | .dead _ _,_::_,_,_,_,_,_=>fun e _=>by simp [bN] at e
 | .sl _,_::_,_,_,_,_,_=>fun e _=>by simp [bN] at e
 | .rw _ _,_::_,_,_,_,_,_=>fun e _=>by simp [bN] at e
 | .mr _ _,_::_,_,_,_,_,_=>fun e _=>by simp [bN] at e
 | .ptr _,_::_,_,_,_,_,_=>fun e _=>by simp [bN] at e
 | .eb _ _,_::_,_,_,_,_,_=>fun e _=>by simp [bN] at e
 | .op _,_::_,_,_,_,_,_=>fun e _=>by simp [bN] at e
 | .bx _ _,_::_,_,_,_,_,_=>fun e _=>by simp [bN] at e
 | .on _,_::_,_,_,_,_,_=>fun e _=>by simp [bN] at e
 | .fl _,_::_,_,_,_,_,_=>fun e _=>by simp [bN] at e
 | .bo _ _,_::_,_,_,_,_,_=>fun e _=>by simp [bN] at e
 | .bn,_::_,_,_,_,_,_=>fun e _=>by simp [bN] at e
 | .tr,_::_,_,_,_,_,_=>fun e _=>by simp [bN] at e
 | .ml _ _ _,_::_,_,_,_,_,_=>fun e _=>by simp [bN] at e
 | .st _, .l::_,_,_,_,_,_=>fun e _=>by cases e
 | .st _, .r::_,_,_,_,_,_=>fun e _=>by cases e
 | .pr _ _, .i::_,_,_,_,_,_=>fun e _=>by cases e
def dA:Ty→List Value
 | .int k=>[.int k 0]
 | .bool=>[.bool false]
 | .str=>[iM.str []]
 | .unit=>[]
 | .it=>[.pointer none]
 | .xX=>[.pointer none]
 | .dead _ _=>[.slice none 0 0]
 | .sl _=>[.slice none 0 0]
 | .rw _ _=>[.slice none 0 0]
 | .mr _ _=>[.slice none 0 0]
 | .ptr _=>[.pointer none]
 | .eb _ _=>[.nilIface]
 | .op _=>[.pointer none]
 | .bx _ _=>[.pointer none]
 | .on _=>[.slice none 0 0]
 | .fl _=>[.slice none 0 0]
 | .bo _ _=>[.pointer none]
 | .bn=>[.pointer none]
 | .tr=>[.nilIface]
 | .ml _ _ _=>[.slice none 0 0]
 | .st t=>dA t
 | .pr a b=>dA a++dA b
def XB (P:Program) (s f:Nat) (t:Ty):Bool:=match P.underlying s with
 | some (.struct fs)=>(match fs[f]? with | some x=>Bw P x.type t.size && (match t with | .st b=>NK P x.type b.size | _=>Ej P x.type) | none=>false)
 | _=>false
structure GK (P:Program) (id:Nat) (i:HV):Prop where
 DN:i.ty=i.ty.er
 sz:Bw P id i.ty.size=true
 sc:(∀ t,i.ty≠ .st t)→Ej P id=true
 int: ∀ k,i.ty= .int k→yG P id k=true
 bool:i.ty= .bool→NJ P id=true
 str:i.ty= .str→IK P id=true
 sl: ∀ t,i.ty= .sl t→QT P id i.el t.size=true∧Ff P id i.el t.size i.sz∧(t= .int .u8→TL P id i.el=true)∧t=t.er∧0<i.sz∧((Lf.zero t).isSome=true→tZ P i.el (dA t))
 QV: ∀ t,i.ty= .st t→NK P id t.size=true
 ag: ∀ t,i.ty= .st t→i.sz=0→(∀ f,f<nf t→Lt P id f (aH t (aD t f))=true)∧ ∃ fs,P.underlying id=some (.struct fs)∧GX P fs=true∧ ∀ f s,f<nf t→bX t (aD t f)=some s→Xv P id f s.size=true
 ar: ∀ t,i.ty= .st t→0<i.sz→ ∃ a,t=fB a i.sz∧P.underlying id=some (.array i.sz i.el)∧Bw P i.el a.size=true∧((∀ b,a≠ .st b)→Ej P i.el=true)∧(∀ b,a= .st b→NK P i.el b.size=true)∧(∀ k,a= .int k→yG P i.el k=true)
 eb: ∀ te t,i.ty= .eb te t→Ow P id=true∧Ut P id=true
 er:i.ty= .tr→Ow P id=true∧Ut P id=true
 ptr: ∀ t,i.ty= .ptr t→Hf P id=true∧Tk P id=true
 un: ∃ ds,P.underlying id=some ds
 zero:(zero i.ty).isSome=true→tZ P id (dA i.ty)
 fk: ∀ t,i.ty= .st t→i.sz=0→ ∀ f s,f<nf t→bX t (aD t f)=some s→XB P id f s=true
 opt: ∀ t,i.ty= .op t→Hf P id=true∧Tk P id=true
theorem nI: ∀ {t:Ty} {p:List Dir} {x:t.den} {y:Dn},aU t p x=some y→bX t p=some y.1
 | t,[],x,y=>fun e=>by
  have:y=⟨t,x⟩:=by unfold aU at e;simpa using e.symm
  subst this;unfold bX;rfl
 | .st t, .i::p,x,y=>fun e=>nI (t:=t) (p:=p) e
 | .pr a b, .l::p,x,y=>fun e=>nI (t:=a) (p:=p) e
 | .pr a b, .r::p,x,y=>fun e=>nI (t:=b) (p:=p) e
 | .int _,_::_,_,_=>fun e=>by simp [aU] at e
 | .bool,_::_,_,_=>fun e=>by simp [aU] at e
 | .str,_::_,_,_=>fun e=>by simp [aU] at e
 | .unit,_::_,_,_=>fun e=>by simp [aU] at e
 | .it,_::_,_,_=>fun e=>by simp [aU] at e
 | .xX,_::_,_,_=>fun e=>by simp [aU] at e
 | .dead _ _,_::_,_,_=>fun e=>by simp [aU] at e
 | .sl _,_::_,_,_=>fun e=>by simp [aU] at e
 | .rw _ _,_::_,_,_=>fun e=>by simp [aU] at e
 | .mr _ _,_::_,_,_=>fun e=>by simp [aU] at e
 | .ptr _,_::_,_,_=>fun e=>by simp [aU] at e
 | .eb _ _,_::_,_,_=>fun e=>by simp [aU] at e
 | .op _,_::_,_,_=>fun e=>by simp [aU] at e
 | .bx _ _,_::_,_,_=>fun e=>by simp [aU] at e
 | .on _,_::_,_,_=>fun e=>by simp [aU] at e
 | .fl _,_::_,_,_=>fun e=>by simp [aU] at e
 | .bo _ _,_::_,_,_=>fun e=>by simp [aU] at e
 | .bn,_::_,_,_=>fun e=>by simp [aU] at e
 | .tr,_::_,_,_=>fun e=>by simp [aU] at e
 | .ml _ _ _,_::_,_,_=>fun e=>by simp [aU] at e
 | .st _, .l::_,_,_=>fun e=>by cases e
 | .st _, .r::_,_,_=>fun e=>by cases e
 | .pr _ _, .i::_,_,_=>fun e=>by cases e
theorem RG {c:Ctx} {id:Nat} {t:Ty} (h:iy c id t=true): ∃ i,look c.ty id=some i∧i.ty=t:=by
 unfold iy at h
 split at h
 ·rename_i i hi;exact ⟨i,hi,by simpa using h⟩
 ·cases h
theorem rO: ∀ {t:Ty} {p:List Dir} {s:Ty},t=t.er→bX t p=some s→s=s.er
 | t,[],s=>fun h e=>by
  have:s=t:=by unfold bX at e;simpa using e.symm
  rw [this];exact h
 | .st t, .i::p,s=>fun h e=>rO (t:=t) (p:=p) (by simpa [Ty.er] using h) e
 | .pr a b, .l::p,s=>fun h e=>rO (t:=a) (p:=p) (by simp only [Ty.er,Ty.pr.injEq] at h;exact h.1) e
 | .pr a b, .r::p,s=>fun h e=>rO (t:=b) (p:=p) (by simp only [Ty.er,Ty.pr.injEq] at h;exact h.2) e
 | .int _,_::_,_=>fun _ e=>by simp [bX] at e
 | .bool,_::_,_=>fun _ e=>by simp [bX] at e
 | .str,_::_,_=>fun _ e=>by simp [bX] at e
 | .unit,_::_,_=>fun _ e=>by simp [bX] at e
 | .it,_::_,_=>fun _ e=>by simp [bX] at e
 | .xX,_::_,_=>fun _ e=>by simp [bX] at e
 | .dead _ _,_::_,_=>fun _ e=>by simp [bX] at e
 | .sl _,_::_,_=>fun _ e=>by simp [bX] at e
 | .rw _ _,_::_,_=>fun _ e=>by simp [bX] at e
 | .mr _ _,_::_,_=>fun _ e=>by simp [bX] at e
 | .ptr _,_::_,_=>fun _ e=>by simp [bX] at e
 | .eb _ _,_::_,_=>fun _ e=>by simp [bX] at e
 | .op _,_::_,_=>fun _ e=>by simp [bX] at e
 | .bx _ _,_::_,_=>fun _ e=>by simp [bX] at e
 | .on _,_::_,_=>fun _ e=>by simp [bX] at e
 | .fl _,_::_,_=>fun _ e=>by simp [bX] at e
 | .bo _ _,_::_,_=>fun _ e=>by simp [bX] at e
 | .bn,_::_,_=>fun _ e=>by simp [bX] at e
 | .tr,_::_,_=>fun _ e=>by simp [bX] at e
 | .ml _ _ _,_::_,_=>fun _ e=>by simp [bX] at e
 | .st _, .l::_,_=>fun _ e=>by cases e
 | .st _, .r::_,_=>fun _ e=>by cases e
 | .pr _ _, .i::_,_=>fun _ e=>by cases e
def Inv (G:World→Prop) (φ:bL) (w:World):Prop:=G w∧Agree φ w
section
variable (P:Program) (N:Nat) (C:Cx) (G:World→Prop) (c:Ctx)
def Cn (S:St) (o:Op) (d:D):Prop:= ∀ W e eh oh,aZ S W e eh oh→ ∃ v,DR W d v []∧ ∀ dst ty pos af gd,gP P N C e (eh++oh) (Inv G W.φ) ⟨dst,o,ty,pos,af,gd⟩ v
end
section
variable {P:Program} {N:Nat} {C:Cx} {G:World→Prop} {c:Ctx} {S:St} {Rt:Type} {kk:D→Option Rt} {r:Rt}
theorem DR.int {W:d_} {k:IntKind} {x:Int}:DR W (ow k x) (.int k x) []:=⟨[_],rfl,rfl,rfl,rfl⟩
theorem DR.bool {W:d_} {b:Bool}:DR W (bR b) (.bool b) []:=⟨[_],rfl,rfl,rfl,rfl⟩
theorem DR.str {W:d_} {l:List UInt8}:DR W (NT l) (iM.str l) []:=⟨[_],rfl,rfl,rfl,rfl⟩
theorem Pm {op:BinOp} {k:IntKind} {a b:Int} (h:EJ op k a b kk=some r): ∃ d,kk d=some r∧ ∀ x y tx tyy,S.get x=ow k a→S.get y=ow k b→Cn P N C G S (.binOp op tx x y tyy) d:=by
 have bitsr: ∀ op,op= .and∨op= .or∨op= .xor∨op= .andNot→Op.intBits op k a b=pure (.int k (bits op k a b)):=by
  rintro op (rfl | rfl | rfl | rfl)<;>rfl
 unfold EJ at h
 split at h
 ·exact ⟨_,h,fun x y tx tyy hx hy W e eh oh hs=>⟨_,DR.int,fun dst ty pos af gd=>R.add (ak hs.env hx) (ak hs.env hy) rfl⟩⟩
 ·exact ⟨_,h,fun x y tx tyy hx hy W e eh oh hs=>⟨_,DR.int,fun dst ty pos af gd=>R.sub (ak hs.env hx) (ak hs.env hy) rfl⟩⟩
 ·exact ⟨_,h,fun x y tx tyy hx hy W e eh oh hs=>⟨_,DR.int,fun dst ty pos af gd=>R.mul (ak hs.env hx) (ak hs.env hy) rfl⟩⟩
 ·obtain ⟨z,hz,h⟩:=Option.bind_eq_some_iff.1 h
  unfold nz at hz
  split at hz
  ·cases hz
  ·rename_i h0
   simp only [Option.some.injEq] at hz
   exact ⟨_,h,fun x y tx tyy hx hy W e eh oh hs=>⟨_,DR.int,fun dst ty pos af gd=>R.quo (ak hs.env hx) (ak hs.env hy) h0 hz⟩⟩
 ·obtain ⟨z,hz,h⟩:=Option.bind_eq_some_iff.1 h
  unfold nz at hz
  split at hz
  ·cases hz
  ·rename_i h0
   simp only [Option.some.injEq] at hz
   exact ⟨_,h,fun x y tx tyy hx hy W e eh oh hs=>⟨_,DR.int,fun dst ty pos af gd=>R.rem (ak hs.env hx) (ak hs.env hy) h0 hz⟩⟩
 ·exact ⟨_,h,fun x y tx tyy hx hy W e eh oh hs=>⟨_,DR.bool,fun dst ty pos af gd=>R.lss (ak hs.env hx) (ak hs.env hy)⟩⟩
 ·exact ⟨_,h,fun x y tx tyy hx hy W e eh oh hs=>⟨_,DR.bool,fun dst ty pos af gd=>R.leq (ak hs.env hx) (ak hs.env hy)⟩⟩
 ·exact ⟨_,h,fun x y tx tyy hx hy W e eh oh hs=>⟨_,DR.bool,fun dst ty pos af gd=>R.gtr (ak hs.env hx) (ak hs.env hy)⟩⟩
 ·exact ⟨_,h,fun x y tx tyy hx hy W e eh oh hs=>⟨_,DR.bool,fun dst ty pos af gd=>R.geq (ak hs.env hx) (ak hs.env hy)⟩⟩
 ·exact ⟨_,h,fun x y tx tyy hx hy W e eh oh hs=>⟨_,DR.bool,fun dst ty pos af gd=>R.ZF (ak hs.env hx) (ak hs.env hy)⟩⟩
 ·exact ⟨_,h,fun x y tx tyy hx hy W e eh oh hs=>⟨_,DR.bool,fun dst ty pos af gd=>R.ZW (ak hs.env hx) (ak hs.env hy)⟩⟩
 ·exact ⟨_,h,fun x y tx tyy hx hy W e eh oh hs=>⟨_,DR.int,fun dst ty pos af gd=>R.bits (.inl rfl) (ak hs.env hx) (ak hs.env hy) (bitsr _ (.inl rfl))⟩⟩
 ·exact ⟨_,h,fun x y tx tyy hx hy W e eh oh hs=>⟨_,DR.int,fun dst ty pos af gd=>R.bits (.inr (.inl rfl)) (ak hs.env hx) (ak hs.env hy) (bitsr _ (.inr (.inl rfl)))⟩⟩
 ·exact ⟨_,h,fun x y tx tyy hx hy W e eh oh hs=>⟨_,DR.int,fun dst ty pos af gd=>R.bits (.inr (.inr (.inl rfl))) (ak hs.env hx) (ak hs.env hy) (bitsr _ (.inr (.inr (.inl rfl))))⟩⟩
 ·exact ⟨_,h,fun x y tx tyy hx hy W e eh oh hs=>⟨_,DR.int,fun dst ty pos af gd=>R.bits (.inr (.inr (.inr rfl))) (ak hs.env hx) (ak hs.env hy) (bitsr _ (.inr (.inr (.inr rfl))))⟩⟩
 ·cases h
theorem Q6 {tb:Bool} {op:BinOp} {x y:Operand} {tx tyy:Nat} (hB:tb=true→NJ P tx=true) (h:MQ tb op (S.get x) (S.get y) kk=some r): ∃ d,kk d=some r∧Cn P N C G S (.binOp op tx x y tyy) d:=by
 generalize hx:S.get x=dx at h
 generalize hy:S.get y=dy at h
 unfold MQ at h
 split at h
 ·obtain ⟨z,hz,h⟩:=Option.bind_eq_some_iff.1 h
  unfold nn at hz
  split at hz
  ·cases hz
  ·rename_i h0
   simp only [Option.some.injEq] at hz
   exact ⟨_,h,fun W e eh oh hs=>⟨_,DR.int,fun dst ty pos af gd=>R.shl (ak hs.env hx) (ak hs.env hy) (by omega) hz⟩⟩
 ·obtain ⟨z,hz,h⟩:=Option.bind_eq_some_iff.1 h
  unfold nn at hz
  split at hz
  ·cases hz
  ·rename_i h0
   simp only [Option.some.injEq] at hz
   exact ⟨_,h,fun W e eh oh hs=>⟨_,DR.int,fun dst ty pos af gd=>R.shr (ak hs.env hx) (ak hs.env hy) (by omega) hz⟩⟩
 ·split at h
  ·rename_i hk
   subst hk
   obtain ⟨d,h1,h2⟩:=Pm (P:=P) (N:=N) (C:=C) (G:=G) (S:=S) h
   exact ⟨d,h1,h2 x y tx tyy hx hy⟩
  ·cases h
 ·exact ⟨_,h,fun W e eh oh hs=>⟨_,DR.bool,fun dst ty pos af gd=>R.eqs (l5 hs.env hx) (l5 hs.env hy)⟩⟩
 ·exact ⟨_,h,fun W e eh oh hs=>⟨_,DR.bool,fun dst ty pos af gd=>R.ZO (l5 hs.env hx) (l5 hs.env hy)⟩⟩
 ·obtain ⟨z,hz,h⟩:=Option.bind_eq_some_iff.1 h
  unfold cat at hz
  split at hz
  ·rename_i hl
   simp only [Option.some.injEq] at hz
   subst hz
   exact ⟨_,h,fun W e eh oh hs=>⟨_,DR.str,fun dst ty pos af gd=>R.cat (l5 hs.env hx) (l5 hs.env hy) hl⟩⟩
  ·cases hz
 ·cases hb:tb with
  | false=>rw [hb] at h;cases h
  | true=>rw [hb] at h;exact ⟨_,h,fun W e eh oh hs=>⟨_,DR.bool,fun dst ty pos af gd=>R.ZU (hB hb) (jl hs.env hx) (jl hs.env hy)⟩⟩
 ·cases hb:tb with
  | false=>rw [hb] at h;cases h
  | true=>rw [hb] at h;exact ⟨_,h,fun W e eh oh hs=>⟨_,DR.bool,fun dst ty pos af gd=>R.ZP (hB hb) (jl hs.env hx) (jl hs.env hy)⟩⟩
 ·cases h
theorem Uk {op:UnOp} {x:Operand} {tx:Nat} (h:UH op (S.get x) kk=some r): ∃ d,kk d=some r∧Cn P N C G S (.unOp op tx x) d:=by
 generalize hx:S.get x=dx at h
 unfold UH at h
 split at h
 ·exact ⟨_,h,fun W e eh oh hs=>⟨_,DR.bool,fun dst ty pos af gd=>R.XV (jl hs.env hx)⟩⟩
 ·exact ⟨_,h,fun W e eh oh hs=>⟨_,DR.int,fun dst ty pos af gd=>R.neg (ak hs.env hx) rfl⟩⟩
 ·cases h
theorem Qn {e:Env} {hs:List Chunk} {I:World→Prop} {a x y:Operand} {b:Bool} {v w:Value} (ha:EV e a (.bool b)) (hx:b=true→EV e x v) (hy:b=false→EV e y w) {dst ty pos af gd}:gP P N C e hs I ⟨dst, .pick a x y,ty,pos,af,gd⟩ (if b then v else w):=by
 cases b with
 | true=>exact R.Zo ha (hx rfl)
 | false=>exact R.ZB ha (hy rfl)
theorem Od {W:d_} {e:Env} {hs:List Chunk} (h:ay W S.env e hs) {x:Operand} {t:Ty} {y:t.den} (hd:S.get x= .v t y): ∃ v,EV e x v∧DR W (.v t y) v []:=by
 obtain ⟨cs,h1,h2,h3,_⟩:=bD h hd
 exact ⟨_,h1,cs,h3,rfl,h2⟩
theorem Qc {a x y:Operand} (h:Fg (S.get a) (S.get x) (S.get y) kk=some r): ∃ d,kk d=some r∧Cn P N C G S (.pick a x y) d:=by
 generalize ha:S.get a=da at h
 generalize hx:S.get x=dx at h
 generalize hy:S.get y=dy at h
 unfold Fg at h
 split at h
 ·rename_i b x' y'
  refine ⟨_,h,fun W e eh oh hs=>⟨_,DR.bool,fun dst ty pos af gd=>?_⟩⟩
  have:=Qn (P:=P) (N:=N) (C:=C) (hs:=eh++oh) (I:=Inv G W.φ) (jl hs.env ha) (fun _=>jl hs.env hx) (fun _=>jl hs.env hy) (dst:=dst) (ty:=ty) (pos:=pos) (af:=af) (gd:=gd)
  cases b<;>exact this
 ·rename_i b t x'
  cases b with
  | false=>cases h
  | true=>
   refine ⟨_,h,fun W e eh oh hs=>?_⟩
   obtain ⟨v,h1,h2⟩:=Od hs.env hx
   exact ⟨v,h2,fun dst ty pos af gd=>R.Zo (jl hs.env ha) h1⟩
 ·rename_i b t x'
  cases b with
  | true=>cases h
  | false=>
   refine ⟨_,h,fun W e eh oh hs=>?_⟩
   obtain ⟨v,h1,h2⟩:=Od hs.env hy
   exact ⟨v,h2,fun dst ty pos af gd=>R.ZB (jl hs.env ha) h1⟩
 ·cases h
theorem nO.look {W:d_} {l:List (Nat×Ob)} {hs:List Chunk} (h:nO W l hs) {j:Nat} {ob:Ob} (hj:Lf.look l j=some ob): ∃ h r,xn W j ob h∧hs.Perm (h++r):=by
 induction h with
 | nil=>cases hj
 | @cons j' ob' h hs l h1 h2 ih=>
  rw [au] at hj
  split at hj
  ·rename_i he
   subst he
   simp only [Option.some.injEq] at hj
   subst hj
   exact ⟨h,hs,h1,List.Perm.refl _⟩
  ·obtain ⟨h3,r,h4,h5⟩:=ih hj
   exact ⟨h3,h++r,h4,(h5.append_left h).trans (by rw [← List.append_assoc, ← List.append_assoc];exact List.perm_append_comm.append_right r)⟩
theorem zO {j:Nat} {p:List Dir} {o:Nat} {y:Dn} (h:S.at j p o=some y): ∃ ob,look S.az j=some ob∧aH ob.t p=o∧aU ob.t p ob.x=some y:=by
 unfold St.at at h
 split at h
 ·rename_i ob hob
  cases hb:Nat.beq (aH ob.t p) o with
  | false=>rw [hb] at h;cases h
  | true=>rw [hb] at h;exact ⟨ob,hob,Nat.eq_of_beq_eq_true hb,h⟩
 ·cases h
theorem lV {W:d_} {oh:List Chunk} (h:nO W S.az oh) {j:Nat} {p:List Dir} {o:Nat} {y:Dn} (ha:S.at j p o=some y):
  ∃ ob pre mid post h1 h2 h3 r,look S.az j=some ob∧W.hd j=pre++mid++post∧pre.length=o∧Rp W.φ y.1 y.2 mid h2∧
   oh.Perm ((match ob.tid with | some tid=>[blk (W.aA j) tid (W.hd j)] | none=>[])++(h1++h2++h3)++r):=by
 obtain ⟨ob,h1,h2,h3⟩:=zO ha
 obtain ⟨h4,r,⟨h0,q1,q2⟩,h6⟩:=h.look h1
 obtain ⟨pre,mid,post,k1,k2,k3,e1,e2,e3,e4⟩:=sD h3 q1
 refine ⟨ob,pre,mid,post,k1,k2,k3,r,h1,e1,by rw [e2,h2],e4,h6.trans ?_⟩
 rw [q2,e3]
 cases ob.tid<;>simp
theorem uA {j:Nat} {p:List Dir} {o:Nat} {y:Dn} (h:S.ED j p o=some y):S.at j p o=some y∧ ∃ ob tid,look S.az j=some ob∧ob.tid=some tid:=by
 unfold St.ED at h
 split at h
 ·rename_i ob hob
  split at h
  ·rename_i tid ht
   exact ⟨by unfold St.at;rw [hob];exact h,ob,tid,hob,ht⟩
  ·cases h
 ·cases h
theorem gX {W:d_} {oh:List Chunk} (h:nO W S.az oh) {j:Nat} {p:List Dir} {o:Nat} {y:Dn} (ha:S.ED j p o=some y):
  ∃ tid pre mid post h2,W.hd j=pre++mid++post∧pre.length=o∧Rp W.φ y.1 y.2 mid h2∧Has oh (blk (W.aA j) tid (W.hd j))∧ ∀ c∈h2,c∈oh:=by
 obtain ⟨h1,ob,tid,h2,h3⟩:=uA ha
 obtain ⟨ob',pre,mid,post,k1,k2,k3,r,q1,q2,q3,q4,q5⟩:=lV h h1
 have:ob'=ob:=Option.some.inj (q1.symm.trans h2)
 subst this
 rw [h3] at q5
 exact ⟨tid,pre,mid,post,k2,q2,q3,q4,q5.mem_iff.2 (by simp),fun c hc=>q5.mem_iff.2 (by simp [hc])⟩
theorem RV {j:Nat} {p:List Dir} {o:Nat} {u:Dn} (r:List Dir) (h:S.ED j p o=some u):S.ED j (p++r) (o+aH u.1 r)=aU u.1 r u.2:=by
 obtain ⟨h1,ob,tid,h2,h3⟩:=uA h
 obtain ⟨ob',k1,k2,k3⟩:=zO h1
 have:ob'=ob:=Option.some.inj (k1.symm.trans h2)
 subst this
 obtain ⟨a1,a2⟩:=tH r k3
 unfold St.ED
 rw [k1]
 simp only [h3]
 rw [a2,k2,Nat.beq_refl,cond_true]
 exact a1
theorem TP {j:Nat} {p q:List Dir} {o N1 n:Nat} {a:Ty} {y:(fB a N1).den} {x:a.den} {z:Dn} (h:S.ED j p o=some ⟨.st (fB a N1),y⟩) (hx:(kD a N1 y)[n]? =some x) (hg:aU a q x=some z):S.ED j (p++ .i::(aD (fB a N1) n++q)) (o+(n*a.size+aH a q))=some z:=by
 obtain ⟨g1,g2,_⟩:=Cu (q:=q) hx
 have h1:=RV (.i::(aD (fB a N1) n++q)) h
 have e1:aH (Ty.st (fB a N1)) (.i::(aD (fB a N1) n++q))=n*a.size+aH a q:=g2
 have e2:aU (Ty.st (fB a N1)) (.i::(aD (fB a N1) n++q)) y=some z:=g1.trans hg
 rw [show aH (⟨.st (fB a N1),y⟩:Dn).1 (.i::(aD (fB a N1) n++q))=n*a.size+aH a q from e1] at h1
 exact h1.trans e2
theorem Cc (pre mid post:List Value):C9 (pre++mid++post) pre.length mid.length mid:=by
 induction pre with
 | cons x r ih=>exact .skip ih
 | nil=>
  simp only [List.nil_append,List.length_nil]
  induction mid with
  | nil=>exact .zero
  | cons y r ih=>exact .here ih
theorem kv {φ:bL} {t:Ty} {x:t.den} {cs:List Value} {h:List Chunk} (ht:t.top=true) (r:Rp φ t x cs h):(∃ t',t= .st t'∧sv t cs= .agg cs.toArray)∨((∀ t',t≠ .st t')∧ ∃ v,cs=[v]∧sv t cs=v):=by
 have hl:=r.len
 have one: ∀ (q: ∀ v,sv t [v]=v),t.size=1→(∀ t',t≠ .st t')→(∃ t',t= .st t'∧sv t cs= .agg cs.toArray)∨((∀ t',t≠ .st t')∧ ∃ v,cs=[v]∧sv t cs=v):=fun q h1 h2=>by
  rw [h1] at hl
  match cs,hl with
  | [v],_=>exact .inr ⟨h2,v,rfl,q v⟩
 cases t with
 | st t=>exact .inl ⟨t,rfl,rfl⟩
 | unit=>cases ht
 | dead _ _=>cases ht
 | pr _ _=>cases ht
 | _=>exact one (fun _=>rfl) rfl (fun _ e=>by cases e)
theorem Jt {t t':Ty} (h:t.er= .st t'): ∃ t0,t= .st t0∧t0.er=t':=by
 cases t<;>simp_all [Ty.er]
variable (hT: ∀ id i,look c.ty id=some i→GK P id i)
include hT
omit hT in
theorem JY {α β:Type} {x:Option (List α×β)} {n:Nat} {u:β} (h:Xk x n=some u): ∃ y,x=some y∧n=y.1.length∧y.2=u:=by
 unfold Xk at h
 split at h
 ·cases h
 ·split at h
  ·rename_i y hn
   injection h with h
   exact ⟨y,rfl,hn,h⟩
  ·cases h
omit hT in
theorem TN {φ:bL} {el:Nat} {a t:Ty} {x:(Ty.ml el a t).den} {cs:List Value} {hs:List Chunk} (r:Rp φ (.ml el a t) x cs hs): ∃ v,cs=[v]:=by
 cases x with
 | none=>exact ⟨_,r.1⟩
 | some y=>obtain ⟨_,_,_,_,_,m1,_⟩:=r;exact ⟨_,m1⟩
omit hT in
theorem AA {φ:bL} {t:Ty} {l:List t.den} {css:List (List Value)} (h:bz (fun x cs=>Rp φ t x cs []) l css): ∀ cx∈css,cx.length=t.size:=by
 induction h with
 | nil=>intro c hc;cases hc
 | cons h1 _ ih=>
  intro c hc
  rcases List.mem_cons.1 hc with rfl | hc
  ·exact h1.len
  ·exact ih c hc
theorem PX {tid:Nat} {a:Operand} (h:FD c S tid kk (S.get a)=some r): ∃ d,kk d=some r∧Cn P N C G S (.load tid a) d:=by
 generalize ha:S.get a=da at h
 unfold FD at h
 split at h
 ·rename_i j p off
  split at h
  ·rename_i el t l i hat hi
   split at h
   ·rename_i he
    refine ⟨_,h,fun W e eh oh hs=>?_⟩
    obtain ⟨tb,pre,mid,post,h2,q1,q2,q3,q4,_⟩:=gX hs.l9 hat
    obtain ⟨A,cc,css,m1,_⟩:=q3
    subst m1
    have hc:(W.hd j)[off]? =some (.slice A (List.length l) cc):=by rw [q1, ← q2];simp
    exact ⟨_,⟨hc,rfl⟩,fun dst ty pos af gd=>R.ld ((hT _ _ hi).sc (by rw [← he];intro t' e;cases e)) (bI hs.env ha) (List.mem_append_right _ q4) hc⟩
   ·cases h
  ·rename_i el a t x i hat hi
   split at h
   ·rename_i he
    refine ⟨_,h,fun W e eh oh hs=>?_⟩
    obtain ⟨tb,pre,mid,post,h2,q1,q2,q3,q4,_⟩:=gX hs.l9 hat
    obtain ⟨v,hv⟩:=TN q3
    subst hv
    have hc:(W.hd j)[off]? =some v:=by rw [q1, ← q2];simp
    exact ⟨_,⟨hc,rfl⟩,fun dst ty pos af gd=>R.ld ((hT _ _ hi).sc (by rw [← he];intro t' e;cases e)) (bI hs.env ha) (List.mem_append_right _ q4) hc⟩
   ·cases h
  ·rename_i t y i hmr hml hat hi
   split at h
   ·rename_i he
    cases htop:t.top with
    | false=>rw [htop] at h;cases h
    | true=>
     rw [htop] at h
     simp only [cond_true] at h
     split at h
     ·rename_i y' hy'
      refine ⟨_,h,fun W e eh oh hs=>?_⟩
      obtain ⟨tb,pre,mid,post,h2,q1,q2,q3,q4,_⟩:=gX hs.l9 hat
      obtain ⟨h',r1,_⟩:=eP hy' q3
      have:=Rp.aP (Ty.f_ t).symm r1
      subst this
      refine ⟨sv t mid,⟨mid,jN hy' htop,qI hy' mid,r1⟩,fun dst ty pos af gd=>?_⟩
      rcases kv htop q3 with ⟨t',e1,e2⟩ | ⟨e1,v,e2,e3⟩
      ·rw [e2]
       have hi2:i.ty= .st t'.er:=by rw [← he,e1];rfl
       have:=(hT _ _ hi).QV _ hi2
       have hlen:mid.length=t'.er.size:=by rw [q3.len];show t.size=_;rw [e1,Ty.aF];rfl
       exact R.XC (n:=mid.length) (by rw [hlen];exact this) (bI hs.env ha) (List.mem_append_right _ q4) (by rw [q1, ← q2];exact Cc _ _ _)
      ·rw [e3]
       subst e2
       exact R.ld ((hT _ _ hi).sc (fun t' e=>by rw [← he] at e;obtain ⟨t0,e5,_⟩:=Jt e;exact e1 _ e5)) (bI hs.env ha) (List.mem_append_right _ q4) (by rw [q1, ← q2];simp)
     ·cases t with
      | st a=>
      have h:(match J2 a a.cp y with | some y'=>kk (.v (.st a.cp) y') | none=>none)=some r:=h
      split at h
      ·rename_i y' hy'
       refine ⟨_,h,fun W e eh oh hs=>?_⟩
       obtain ⟨tb,pre,mid,post,h2,q1,q2,q3,q4,_⟩:=gX hs.l9 hat
       obtain ⟨h',r1⟩:=Cq (t:=a) (t':=a.cp) hy' q3
       have:=GV r1
       subst this
       refine ⟨.agg mid.toArray,⟨mid,rfl,rfl,r1⟩,fun dst ty pos af gd=>?_⟩
       have hi2:i.ty= .st a.er:=by rw [← he];rfl
       have:=(hT _ _ hi).QV _ hi2
       have hlen:mid.length=a.er.size:=by rw [q3.len];show a.size=_;rw [Ty.aF]
       exact R.XC (n:=mid.length) (by rw [hlen];exact this) (bI hs.env ha) (List.mem_append_right _ q4) (by rw [q1, ← q2];exact Cc _ _ _)
      ·cases h
      | _=>cases h
   ·cases h
  ·cases h
 ·rename_i t x
  split at h
  ·rename_i i hi
   split at h
   ·rename_i he
    cases htop:t.top with
    | false=>rw [htop] at h;cases h
    | true=>
     rw [htop] at h
     simp only [cond_true] at h
     refine ⟨_,h,fun W e eh oh hs=>?_⟩
     obtain ⟨v,h',h1,ad,cs,rfl,q1,q2,_⟩:=bY hs.env ha (by intro e;cases e)
     refine ⟨sv t cs,⟨cs,htop,rfl,q1⟩,fun dst ty pos af gd=>?_⟩
     rcases kv htop q1 with ⟨t',e1,e2⟩ | ⟨e1,v,e2,e3⟩
     ·rw [e2]
      have:=(hT _ _ hi).QV t' (by rw [← he,e1])
      have hlen:cs.length=t'.size:=by rw [q1.len,e1];rfl
      refine R.Rh (Ad:=some ad) (j:=0) (by rw [← hlen] at this;exact this) rfl h1 (fun _ _=>by simp) fun w hb i v hv=>?_
      exact ⟨ad,rfl,by rw [Nat.zero_add];exact hb.get.2 _ _ (q2 i v hv)⟩
     ·rw [e3]
      subst e2
      exact R.Zz ((hT _ _ hi).sc (by rw [← he];exact e1)) h1 fun w hb=>hb.get.2 _ _ (q2 0 _ rfl)
   ·cases h
  ·cases h
 ·rename_i j p off
  split at h
  ·rename_i t1 el sz hi
   refine ⟨_,h,fun W e eh oh hs=>?_⟩
   obtain ⟨v,h',h1,⟨c0,rfl,q2⟩,_⟩:=bY hs.env ha (by intro e;cases e)
   exact ⟨_,⟨rfl,rfl⟩,fun dst ty pos af gd=>R.Zz ((hT _ _ hi).sc (by intro t' e;cases e)) h1 fun w hb=>hb.get.2 _ _ q2⟩
  ·cases h
 ·rename_i j p off n sz q qo
  split at h
  ·rename_i el t l i hat hi
   cases hb:(Nat.beq t.size sz && Nat.beq (aH t q) qo) with
   | false=>rw [hb] at h;cases h
   | true=>
    rw [hb] at h
    simp only [cond_true] at h
    simp only [Bool.and_eq_true] at hb
    have hsz:=Nat.eq_of_beq_eq_true hb.1
    have hqo:=Nat.eq_of_beq_eq_true hb.2
    obtain ⟨x,hx,h⟩:=Option.bind_eq_some_iff.1 h
    split at h
    ·rename_i s y hg
     split at h
     ·rename_i he
      cases htop:s.top with
      | false=>rw [htop] at h;cases h
      | true=>
       rw [htop] at h
       simp only [cond_true] at h
       refine ⟨_,h,fun W e eh oh hs=>?_⟩
       obtain ⟨v,h',h1,A,m,cc,k1,rfl,_⟩:=bY hs.env ha (by intro e;cases e)
       obtain ⟨ob,pre,mid,post,x1,x2,x3,rr,q1,q2,q3,q4,q5⟩:=lV hs.l9 hat
       obtain ⟨A',cc',css,m1,m2,m3,_,m4⟩:=q4
       subst m1
       have hc:(W.hd j)[off]? =some (.slice A' (List.length l) cc'):=by rw [q2, ← q3];simp
       rw [hc] at k1
       simp only [Option.some.injEq,Value.slice.injEq] at k1
       obtain ⟨rfl,_,_⟩:=k1
       obtain ⟨ce,g1,g2⟩:=m3.get hx
       obtain ⟨pre2,mid2,post2,y1,y2,y3,f1,f2,f3,f4⟩:=sD hg g2
       have hrow:Chunk.row false (.slice (some A) (List.length l) cc') el t.size (List.length l) css.flatten∈eh++oh:=by
        refine List.mem_append_right _ (q5.mem_iff.2 ?_)
        simp [m4]
       have hall: ∀ cx∈css,cx.length=t.size:=fun cx hcx=>by
        obtain ⟨ix,hix⟩:=List.getElem?_of_mem hcx
        have hlt:=(List.getElem?_eq_some_iff.1 hix).1
        rw [← m3.length] at hlt
        obtain ⟨b',hb1,hb2⟩:=m3.get (List.getElem?_eq_getElem hlt)
        rw [hix] at hb1
        injection hb1 with hb1
        subst hb1
        exact hb2.len
       have hcell: ∀ w,Hb C w (eh++oh) (Inv G W.φ)→ ∀ j2 u,mid2[j2]? =some u→EM w (some A) (n*sz+qo+j2) u:=fun w hb2 j2 u hu=>by
        have hr:w.ownsRow 0 el t.size (.slice (some A) (List.length l) cc') (List.length l) css.flatten:=hb2.hp.hold _ hrow
        refine (Rd.Al hr).cell ?_
        rw [← hsz, ← hqo, ← f2,show n*t.size+pre2.length+j2=n*t.size+(pre2.length+j2) by omega]
        refine flat_get css hall n ce g1 (pre2.length+j2) u ?_
        rw [f1,List.append_assoc,List.getElem?_append_right (by omega),show pre2.length+j2 - pre2.length=j2 by omega,List.getElem?_append_left (by exact (List.getElem?_eq_some_iff.1 hu).1)]
        exact hu
       have hnil:y2=[]:=by
        have:y1++y2++y3=[]:=f3.symm
        simp at this
        exact this.2.1
       subst hnil
       refine ⟨sv s mid2,⟨mid2,htop,rfl,f4⟩,fun dst ty pos af gd=>?_⟩
       have hpt:(Value.pointer (some (A.add (n*sz+qo))))=QP (some A) (n*sz+qo):=rfl
       rw [hpt] at h1
       rcases kv htop f4 with ⟨t',e1,e2⟩ | ⟨e1,v,e2,e3⟩
       ·rw [e2]
        have:=(hT _ _ hi).QV t' (by rw [← he,e1])
        have hlen:mid2.length=t'.size:=by rw [f4.len];show s.size=_;rw [e1];rfl
        exact R.Rh (by rw [← hlen] at this;exact this) rfl h1 (fun _ _=>by simp) fun w hb2 j2 u hu=>hcell w hb2 j2 u hu
       ·rw [e3]
        subst e2
        exact R.Yz ((hT _ _ hi).sc (by rw [← he];exact e1)) h1 fun w hb2=>by simpa using hcell w hb2 0 v rfl
     ·cases h
    ·cases h
  ·rename_i el a t x i hat hi
   cases hb:(Nat.beq t.size sz && Nat.beq (aH t q) qo) with
   | false=>rw [hb] at h;cases h
   | true=>
    rw [hb] at h
    simp only [cond_true] at h
    simp only [Bool.and_eq_true] at hb
    have hsz:=Nat.eq_of_beq_eq_true hb.1
    have hqo:=Nat.eq_of_beq_eq_true hb.2
    obtain ⟨u0,hu0,h⟩:=Option.bind_eq_some_iff.1 h
    obtain ⟨y0,rfl,rfl,rfl⟩:=JY hu0
    split at h
    ·rename_i s y hg
     split at h
     ·rename_i he
      cases htop:s.top with
      | false=>rw [htop] at h;cases h
      | true=>
       rw [htop] at h
       simp only [cond_true] at h
       split at h
       case h_2=>cases h
       case h_1 y' hy'=>
       refine ⟨_,h,fun W e eh oh hs=>?_⟩
       obtain ⟨v,h',h1,A,m,cc,k1,rfl,_⟩:=bY hs.env ha (by intro e;cases e)
       obtain ⟨ob,pre,mid,post,x1,x2,x3,rr,q1,q2,q3,q4,q5⟩:=lV hs.l9 hat
       obtain ⟨A',cc',css,ce,he0,m1,m2,m3,m4,m5,m6⟩:=q4
       subst m1
       have hc:(W.hd j)[off]? =some (.slice (some A') (y0.1.length+1) cc'):=by rw [q2, ← q3];simp
       rw [hc] at k1
       simp only [Option.some.injEq,Value.slice.injEq] at k1
       obtain ⟨rfl,_,_⟩:=k1
       obtain ⟨pre2,mid2,post2,y1,y2,y3,f1,f2,f3,f4⟩:=sD hg m4
       have hrow:Chunk.row false (.slice (some A') (y0.1.length+1) cc') el t.size (y0.1.length+1) (css.flatten++ce)∈eh++oh:=by
        refine List.mem_append_right _ (q5.mem_iff.2 ?_)
        simp [m6]
       have hall: ∀ cx∈css,cx.length=t.size:=fun cx hcx=>by rw [AA m3 cx hcx,m5,Ty.aF]
       have hfl:css.flatten.length=y0.1.length*t.size:=by rw [fI css hall,m3.length]
       have hcell: ∀ w,Hb C w (eh++oh) (Inv G W.φ)→ ∀ j2 u,mid2[j2]? =some u→EM w (some A') (y0.1.length*sz+qo+j2) u:=fun w hb2 j2 u hu=>by
        have hr:w.ownsRow 0 el t.size (.slice (some A') (y0.1.length+1) cc') (y0.1.length+1) (css.flatten++ce):=hb2.hp.hold _ hrow
        refine (Rd.Al hr).cell ?_
        rw [← hsz, ← hqo, ← f2, ← hfl,show css.flatten.length+pre2.length+j2=css.flatten.length+(pre2.length+j2) by omega,List.getElem?_append_right (by omega),show css.flatten.length+(pre2.length+j2) - css.flatten.length=pre2.length+j2 by omega,f1,List.append_assoc,List.getElem?_append_right (by omega),show pre2.length+j2 - pre2.length=j2 by omega,List.getElem?_append_left (by exact (List.getElem?_eq_some_iff.1 hu).1)]
        exact hu
       obtain ⟨h'',r1,_⟩:=eP hy' f4
       have:=Rp.aP (Ty.f_ s).symm r1
       subst this
       refine ⟨sv s mid2,⟨mid2,jN hy' htop,qI hy' mid2,r1⟩,fun dst ty pos af gd=>?_⟩
       have hpt:(Value.pointer (some (A'.add (y0.1.length*sz+qo))))=QP (some A') (y0.1.length*sz+qo):=rfl
       rw [hpt] at h1
       rcases kv htop f4 with ⟨t',e1,e2⟩ | ⟨e1,v,e2,e3⟩
       ·rw [e2]
        have hi2:i.ty= .st t'.er:=by rw [← he,e1];rfl
        have:=(hT _ _ hi).QV _ hi2
        have hlen:mid2.length=t'.er.size:=by rw [f4.len];show s.size=_;rw [e1,Ty.aF];rfl
        exact R.Rh (by rw [← hlen] at this;exact this) rfl h1 (fun _ _=>by simp) fun w hb2 j2 u hu=>hcell w hb2 j2 u hu
       ·rw [e3]
        subst e2
        exact R.Yz ((hT _ _ hi).sc (fun t' e=>by rw [← he] at e;obtain ⟨t0,e5,_⟩:=Jt e;exact e1 _ e5)) h1 fun w hb2=>by simpa using hcell w hb2 0 v rfl
     ·cases h
    ·cases h
  ·cases h
 ·rename_i j p off m sz q qo
  split at h
  case h_2=>cases h
  case h_1 t y i hat hi=>
  split at h
  case h_2=>cases h
  case h_1 a ha2=>
  cases hb:(Nat.beq a.size sz && Nat.beq (aH a q) qo) with
  | false=>rw [hb] at h;cases h
  | true=>
   rw [hb] at h
   simp only [cond_true] at h
   simp only [Bool.and_eq_true] at hb
   have hsz:=Nat.eq_of_beq_eq_true hb.1
   have hqo:=Nat.eq_of_beq_eq_true hb.2
   split at h
   case h_2=>cases h
   case h_1 l hl=>
   obtain ⟨N1,e1,rfl⟩:=Kv hl
   subst e1
   have hbd:=Option.bind_eq_some_iff.1 h
   clear h
   obtain ⟨n,hn,h⟩:=hbd
   subst hn
   obtain ⟨x,hx,h⟩:=Option.bind_eq_some_iff.1 h
   split at h
   case h_2=>cases h
   case h_1 s z hg=>
   split at h
   case isFalse=>cases h
   case isTrue he=>
   cases htop:s.top with
   | false=>rw [htop] at h;cases h
   | true=>
    rw [htop] at h
    simp only [cond_true] at h
    have hat2:=TP hat (show (kD a N1 y)[n]? =some x from hx) hg
    rw [hsz,hqo] at hat2
    have hs':s=s.er:=by rw [he];exact (hT _ _ hi).DN
    refine ⟨_,h,fun W e eh oh hs=>?_⟩
    have h1:=Cw hs.env ha
    obtain ⟨tb,pre,mid,post,h2,q1,q2,q3,q4,_⟩:=gX hs.l9 hat2
    have:=Rp.aP hs' q3
    subst this
    refine ⟨sv s mid,⟨mid,htop,rfl,q3⟩,fun dst ty pos af gd=>?_⟩
    rcases kv htop q3 with ⟨t',e1,e2⟩ | ⟨e1,v,e2,e3⟩
    ·rw [e2]
     have:=(hT _ _ hi).QV t' (by rw [← he,e1])
     have hlen:mid.length=t'.size:=by rw [q3.len];show s.size=_;rw [e1];rfl
     exact R.XC (n:=mid.length) (by rw [hlen];exact this) h1 (List.mem_append_right _ q4) (by rw [q1, ← q2];exact Cc _ _ _)
    ·rw [e3]
     subst e2
     exact R.ld ((hT _ _ hi).sc (by rw [← he];exact e1)) h1 (List.mem_append_right _ q4) (by rw [q1, ← q2];simp)
 ·cases h
end
end Go.Lf
