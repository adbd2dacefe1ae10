/-
  Operations that leave all but their slot as it is: the rest of them.
-/
import Derived.Test.YtkfcinmgebhbhaaDoorQSnd2
namespace Go.Lf
open Go Go.Eng

section
variable {P : Program} {N : Nat} {C : Cx} {G : World → Prop} {c : Ctx} {S : St} {Rt : Type} {kk : D → Option Rt} {r : Rt}

theorem asTy_get {W : Wit} {e : Env} {hs : List Chunk} (h : EnvR W S.env e hs) {x : Operand} {t : Ty} {y : t.den} (ha : asTy t (S.get x) = some y) (hf : t = t.er) : ∃ cs, EV e x (sv t cs) ∧ Rp W.φ t y cs [] := by
  generalize hd : S.get x = d at ha
  unfold asTy at ha
  split at ha
  · rename_i t' x'
    obtain ⟨cs, h1, h2, _⟩ := get_v h hd
    obtain ⟨h', h3, _⟩ := coe_ok ha h2
    have := Rp.er_nil hf h3
    subst this
    exact ⟨cs, by rw [← coe_sv ha cs]; exact h1, h3⟩
  · have h1 := get_nils h hd
    split at ha <;> first | (simp [Ty.er] at hf; done) | skip
    · simp only [Option.some.injEq] at ha
      subst ha
      exact ⟨[.slice none 0 0], h1, ⟨none, 0, [], rfl, Nat.le_refl _, .nil, fun h => absurd h (by simp), rfl⟩⟩
    · cases ha
  · obtain ⟨v, h', h1, rfl, _⟩ := get_ok h hd (by intro e; cases e)
    split at ha
    · simp only [Option.some.injEq] at ha
      subst ha
      exact ⟨[.nilIface], h1, rfl, rfl⟩
    · cases ha
  · cases ha

theorem asTy_top {W : Wit} {e : Env} {hs : List Chunk} (h : EnvR W S.env e hs) {x : Operand} {t : Ty} {y : t.den} (ha : asTy t (S.get x) = some y) (hf : t = t.er) : t.top = true := by
  generalize hd : S.get x = d at ha
  cases d with
  | v t' x' => obtain ⟨_, _, _, ht, _⟩ := get_v h hd; exact coe_top ha ht
  | nils => cases t <;> first | rfl | (simp [asTy] at ha; done) | (simp [Ty.er] at hf; done)
  | niI => cases t <;> first | rfl | (simp [asTy] at ha; done)
  | _ => simp [asTy] at ha
theorem bnd_ok {W : Wit} {e : Env} {hs : List Chunk} (h : EnvR W S.env e hs) {d a : Int} {x : Option Operand} (hb : bnd S d x = some a) {n : Nat} (hd : d = n) (h0 : 0 ≤ a) : Bnd e n x a.toNat := by
  unfold bnd at hb
  split at hb
  · simp only [Option.some.injEq] at hb
    subst hb
    subst hd
    exact .no
  · split at hb
    · rename_i y _ k b hy
      simp only [Option.some.injEq] at hb
      subst hb
      exact .yes (get_int h hy) (Int.toNat_of_nonneg h0).symm
    · cases hb

theorem sub_ok {α : Type} {l m : List α} {a b : Int} (h : sub l a b = some m) : 0 ≤ a ∧ a ≤ b ∧ b ≤ l.length ∧ m = (l.drop a.toNat).take (b.toNat - a.toNat) := by
  unfold sub at h
  split at h
  · rename_i h1
    simp only [Option.some.injEq] at h
    exact ⟨h1.1, h1.2.1, h1.2.2, h.symm⟩
  · cases h

theorem PhiAt.sub {φ : Phi} {ad : Addr} {cs : List Value} (h : PhiAt φ ad cs) (k m : Nat) : PhiAt φ (ad.add k) ((cs.drop k).take m) := fun j v hv => by
  rw [List.getElem?_take] at hv
  split at hv
  · rw [List.getElem?_drop] at hv
    rw [add_add']
    exact h _ v hv
  · cases hv

/-- a part of a slice -/
theorem Rp.cut {φ : Phi} {t : Ty} {l : List t.den} {A : Option Addr} {cc : Nat} {css : List (List Value)} (h1 : l.length ≤ cc) (h2 : All2 (fun x cs => Rp φ t x cs []) l css) (h3 : RdPhi φ A l.length css.flatten) {a b : Nat} (hab : a ≤ b) (hb : b ≤ l.length) :
    Rp φ (.sl t) ((l.drop a).take (b - a)) [.slice (cutA A cc a t.size) (b - a) (cc - a)] [] := by
  have hlen : ((l.drop a).take (b - a)).length = b - a := by simp; omega
  have hall : ∀ cx ∈ css, cx.length = t.size := fun cx hcx => by
    obtain ⟨ix, hix⟩ := List.getElem?_of_mem hcx
    have hlt := (List.getElem?_eq_some_iff.1 hix).1
    rw [← h2.length] at hlt
    obtain ⟨b', hb1, hb2⟩ := h2.get (List.getElem?_eq_getElem hlt)
    rw [hix] at hb1
    injection hb1 with hb1
    subst hb1
    exact hb2.len
  refine ⟨cutA A cc a t.size, cc - a, (css.drop a).take (b - a), by rw [hlen], by rw [hlen]; omega, (h2.drop a).take (b - a), fun hn => ?_, rfl⟩
  rw [hlen] at hn
  obtain ⟨ad, rfl, h4⟩ := h3 (by omega)
  refine ⟨ad.add (a * t.size), by unfold cutA; rw [if_neg (by omega)]; rfl, ?_⟩
  have hall2 : ∀ cx ∈ css.drop a, cx.length = t.size := fun cx hcx => hall cx (List.mem_of_mem_drop hcx)
  rw [flat_take _ hall2, flat_drop _ hall]
  exact h4.sub _ _

variable (hT : ∀ id i, look c.ty id = some i → TyOk P id i)
include hT
theorem isTyOk {id : Nat} {t : Ty} (h : isTy c id t = true) : ∃ i, i.ty = t ∧ TyOk P id i := by
  obtain ⟨i, h1, h2⟩ := isTy_ok h
  exact ⟨i, h2, hT _ _ h1⟩

theorem sliceV_ok {tx : Nat} {x : Operand} {lo hi : Option Operand} (h : sliceV c tx S x lo hi kk = some r) : ∃ d, kk d = some r ∧ VOk P N C G S (.slice tx x lo hi none) d := by
  generalize hx : S.get x = dx at h
  unfold sliceV at h
  rw [hx] at h
  split at h
  · rename_i l
    cases hb : isTy c tx .str with
    | false => rw [hb] at h; cases h
    | true =>
      rw [hb] at h
      simp only [cond_true] at h
      obtain ⟨i, hi, ho⟩ := isTyOk hT hb
      split at h
      · rename_i a b ha hb2
        obtain ⟨m, hm, h⟩ := Option.bind_eq_some_iff.1 h
        obtain ⟨q1, q2, q3, q4⟩ := sub_ok hm
        refine ⟨_, h, fun W e eh oh hs => ⟨_, DR.str, fun dst ty pos af gd => ?_⟩⟩
        exact R.sls (ho.str hi) (get_str hs.env hx) (bnd_ok hs.env ha rfl q1) (bnd_ok hs.env hb2 rfl (by omega)) (by omega) (by omega) q4.symm
      · cases h
  · rename_i t l
    cases hb : isTy c tx (.sl t) with
    | false => rw [hb] at h; cases h
    | true =>
      rw [hb] at h
      simp only [cond_true] at h
      obtain ⟨i, hi, ho⟩ := isTyOk hT hb
      split at h
      · rename_i a b ha hb2
        obtain ⟨m, hm, h⟩ := Option.bind_eq_some_iff.1 h
        obtain ⟨q1, q2, q3, q4⟩ := sub_ok hm
        refine ⟨_, h, fun W e eh oh hs => ?_⟩
        obtain ⟨cs, g1, g2, _⟩ := get_v hs.env hx
        obtain ⟨A, cc, css, rfl, g3, g4, g5, _⟩ := g2
        refine ⟨_, ⟨_, rfl, rfl, q4 ▸ Rp.cut g3 g4 g5 (a := a.toNat) (b := b.toNat) (by omega) (by omega)⟩, fun dst ty pos af gd => ?_⟩
        exact R.sll (ho.sl t hi).1 g1 (bnd_ok hs.env ha rfl q1) (bnd_ok hs.env hb2 rfl (by omega)) (by omega) (by omega)
      · cases h
  · cases h

theorem lenV_ok {tx : Nat} {x : Operand} {args : Array Operand} {tys : Array TypeId} (h1 : args.toList = [x]) (h2 : tys.toList = [tx]) (h : lenV c tx S kk (S.get x) = some r) : ∃ d, kk d = some r ∧ VOk P N C G S (.call ⟨.builtin .len, args, tys⟩) d := by
  have e1 : args = #[x] := by rw [← Array.toArray_toList (xs := args), h1]
  have e2 : tys = #[tx] := by rw [← Array.toArray_toList (xs := tys), h2]
  subst e1 e2
  generalize hx : S.get x = dx at h
  unfold lenV at h
  split at h
  · rename_i t l
    cases hb : isTy c tx (.sl t) with
    | false => rw [hb] at h; cases h
    | true =>
      rw [hb] at h
      obtain ⟨i, hi, ho⟩ := isTyOk hT hb
      refine ⟨_, h, fun W e eh oh hs => ⟨_, DR.int, fun dst ty pos af gd => ?_⟩⟩
      obtain ⟨cs, g1, g2, _⟩ := get_v hs.env hx
      obtain ⟨A, cc, css, rfl, _⟩ := g2
      exact R.lenl (ho.sl t hi).1 g1
  · rename_i l
    cases hb : isTy c tx .str with
    | false => rw [hb] at h; cases h
    | true =>
      rw [hb] at h
      obtain ⟨i, hi, ho⟩ := isTyOk hT hb
      exact ⟨_, h, fun W e eh oh hs => ⟨_, DR.int, fun dst ty pos af gd => R.lens (ho.str hi) (get_str hs.env hx)⟩⟩
  · split at h
    · rename_i t el sz hl
      exact ⟨_, h, fun W e eh oh hs => ⟨_, DR.int, fun dst ty pos af gd => R.lenl ((hT _ _ hl).sl t rfl).1 (get_nils hs.env hx)⟩⟩
    · cases h
  · rename_i j p off
    split at h
    · rename_i el t l hat
      cases hb : isTy c tx (.sl t) with
      | false => rw [hb] at h; cases h
      | true =>
        rw [hb] at h
        obtain ⟨i, hi, ho⟩ := isTyOk hT hb
        refine ⟨_, h, fun W e eh oh hs => ⟨_, DR.int, fun dst ty pos af gd => ?_⟩⟩
        obtain ⟨v, g1, g2⟩ := get_aref hs.env hx
        obtain ⟨ob, pre, mid, post, x1, x2, x3, rr, q1, q2, q3, q4, q5⟩ := at_cells hs.obs hat
        obtain ⟨A', cc', css, m1, _⟩ := q4
        subst m1
        have : v = .slice A' (List.length l) cc' := by
          rw [q2, ← q3] at g2
          simpa using g2.symm
        subst this
        exact R.lenl (ho.sl t hi).1 g1
    · cases h
  · cases h

omit hT in
theorem RdPhi.get {φ : Phi} {t : Ty} {l : List t.den} {A : Option Addr} {css : List (List Value)} (h2 : All2 (fun x cs => Rp φ t x cs []) l css) (h3 : RdPhi φ A l.length css.flatten) {n : Nat} {x : t.den} (hx : l[n]? = some x) :
    ∃ ad ce, A = some ad ∧ Rp φ t x ce [] ∧ PhiAt φ (ad.add (n * t.size)) ce := by
  have hlt := (List.getElem?_eq_some_iff.1 hx).1
  obtain ⟨ad, rfl, h4⟩ := h3 (by omega)
  obtain ⟨ce, g1, g2⟩ := h2.get hx
  have hall : ∀ cx ∈ css, cx.length = t.size := fun cx hcx => by
    obtain ⟨ix, hix⟩ := List.getElem?_of_mem hcx
    have hlt := (List.getElem?_eq_some_iff.1 hix).1
    rw [← h2.length] at hlt
    obtain ⟨b', hb1, hb2⟩ := h2.get (List.getElem?_eq_getElem hlt)
    rw [hix] at hb1
    injection hb1 with hb1
    subst hb1
    exact hb2.len
  refine ⟨ad, ce, rfl, g2, fun j v hv => ?_⟩
  rw [add_add']
  exact h4 _ v (flat_get css hall n ce g1 j v hv)

omit hT in
theorem idx_ok {α : Type} {l : List α} {i : Int} {x : α} (h : idx l i = some x) : 0 ≤ i ∧ l[i.toNat]? = some x := by
  unfold idx at h
  split at h
  · exact ⟨‹_›, h⟩
  · cases h
omit hT in
theorem chk_ok {n m : Nat} {i : Int} (h : chk n i = some m) : i = (m : Int) ∧ m < n := by
  unfold chk at h
  split at h
  · simp only [Option.some.injEq] at h
    omega
  · cases h

omit hT in
theorem fld_ok {φ : Phi} {t : Ty} {p : List Dir} {y : t.den} {z : Dn} {ad : Addr} {cs : List Value} (hg : getP t p y = some z) (r : Rp φ t y cs []) (h : PhiAt φ ad cs) : ∃ cs', Rp φ z.1 z.2 cs' [] ∧ PhiAt φ (ad.add (offP t p)) cs' := by
  obtain ⟨pre, mid, post, y1, y2, y3, f1, f2, f3, f4⟩ := getP_ok hg r
  have hnil : y2 = [] := by
    have : y1 ++ y2 ++ y3 = [] := f3.symm
    simp at this
    exact this.2.1
  subst hnil
  refine ⟨mid, f4, fun j v hv => ?_⟩
  rw [add_add']
  refine h _ v ?_
  rw [f1, ← f2, List.append_assoc, List.getElem?_append_right (by omega), show pre.length + j - pre.length = j by omega, List.getElem?_append_left (by exact (List.getElem?_eq_some_iff.1 hv).1)]
  exact hv
end

/-! ### What is known of functions -/
inductive ArgsR (φ : Phi) : (ps : List Par) → prodT (ps.map Par.ty) → List Value → List (Nat × Nat) → List Chunk → Prop
  | nil {z : prodT (([] : List Par).map Par.ty)} : ArgsR φ [] z [] [] []
  | val {t : Ty} {r : List Par} {z : prodT ((Par.val t :: r).map Par.ty)} {cs : List Value} {h hs : List Chunk} {vs : List Value} {gs : List (Nat × Nat)} : t.top = true → Rp φ t (headP (r.map Par.ty) z) cs h → ArgsR φ r (tailP (r.map Par.ty) z) vs gs hs → ArgsR φ (.val t :: r) z (sv t cs :: vs) gs (h ++ hs)
  | cfn {g : Nat} {r : List Par} {z : prodT ((Par.cfn g :: r).map Par.ty)} {hs : List Chunk} {vs : List Value} {gs : List (Nat × Nat)} : ArgsR φ r (tailP (a := .unit) (r.map Par.ty) z) vs gs hs → ArgsR φ (.cfn g :: r) z (.func (.func g) #[] #[] :: vs) gs hs
  | obj {tid : Nat} {t t' : Ty} {p : List Dir} {r : List Par} {z : prodT ((Par.obj tid t t' p :: r).map Par.ty)} {cs : List Value} {h hs : List Chunk} {vs : List Value} {g : Nat} {gs : List (Nat × Nat)} : Rp φ t (headP (r.map Par.ty) z) cs h → ArgsR φ r (tailP (r.map Par.ty) z) vs gs hs →
      ArgsR φ (.obj tid t t' p :: r) z (.pointer (some ⟨g, offP t p, none⟩) :: vs) ((g, tid) :: gs) (blk g tid cs :: h ++ hs)
def ResR (φ : Phi) (L : List Dn) (v : Value) (h : List Chunk) : Prop := ∃ vs, TupR φ L vs h ∧ v = resVal vs
inductive ObsR (φ : Phi) : List (Nat × Nat) → List Dn → List Chunk → Prop
  | nil : ObsR φ [] [] []
  | cons {g tid : Nat} {t : Ty} {x : t.den} {cs : List Value} {h hs : List Chunk} {gs : List (Nat × Nat)} {L : List Dn} : Rp φ t x cs h → ObsR φ gs L hs → ObsR φ ((g, tid) :: gs) (⟨t, x⟩ :: L) (blk g tid cs :: h ++ hs)

structure EntryOk (P : Program) (G : World → Prop) (f : Nat) (e : Entry) : Prop where
  go : GoFn P f
  top : ∀ t, Par.val t ∈ e.ps → t.top = true
  ok : ∀ (z : prodT (e.ps.map Par.ty)) (r : prodT (e.rs ++ outs e.ps)), e.f z = some r → ∀ (C : Cx) (φ : Phi) (vals : List Value) (gs : List (Nat × Nat)) (hs : List Chunk), ArgsR φ e.ps z vals gs hs → Hb C C.w0 hs (Inv G φ) →
    Calls P f vals.toArray C.w0 fun x w' => ∃ v φ' h1 h2, x = .returned v ∧ φ.le φ' ∧ Hb C w' (h1 ++ h2) (Inv G φ') ∧ ResR φ' ((unProd (e.rs ++ outs e.ps) r).take e.rs.length) v h1 ∧ ObsR φ' gs ((unProd (e.rs ++ outs e.ps) r).drop e.rs.length) h2

structure CtxOk (P : Program) (G : World → Prop) (c : Ctx) : Prop where
  ty : ∀ id i, look c.ty id = some i → TyOk P id i
  fn : ∀ f e, look c.fn f = some e → EntryOk P G f e

theorem DR.res {W : Wit} {L : List Dn} {v : Value} {h : List Chunk} (hr : ResR W.φ L v h) : DR W (tupD L) v h := by
  obtain ⟨vs, h1, rfl⟩ := hr
  unfold tupD
  split
  · cases h1 with
    | cons h2 h3 h4 =>
      cases h4
      exact ⟨_, h2, rfl, by simpa using h3⟩
  · rename_i hne
    refine ⟨vs, ?_, h1⟩
    cases h1 with
    | nil => rfl
    | @cons t x cs h hs l vs h2 h3 h4 =>
      cases h4 with
      | nil => exact absurd rfl (hne t x)
      | cons => rfl

section
variable (P : Program) (N : Nat) (C : Cx) (G : World → Prop)
/-- The same of a call that leaves all as it is. -/
def POk (S : St) (o : Op) (d : D) : Prop := ∀ W e eh oh, SRel S W e eh oh → ∃ v, DR W d v [] ∧ ∀ dst ty pos af gd a w, Fr a N e → Hb C w (eh ++ oh) (Inv G W.φ) →
  match (execOp a.eval ⟨dst, o, ty, pos, af, gd⟩).run P w with
  | .ok (.value u) w' => u = v ∧ Hb C w' (eh ++ oh) (Inv G W.φ)
  | .ok (.enter f args) w' => Calls P f args w' fun x w'' => x = .returned v ∧ Hb C w'' (eh ++ oh) (Inv G W.φ)
  | _ => False
end

section
variable {P : Program} {N : Nat} {C : Cx} {G : World → Prop} {c : Ctx} {S : St} {Rt : Type} {kk : D → Option Rt} {r : Rt}
theorem VOk.pok {o : Op} {d : D} (h : VOk P N C G S o d) : POk P N C G S o d := fun W e eh oh hs => by
  obtain ⟨v, h1, h2⟩ := h W e eh oh hs
  refine ⟨v, h1, fun dst ty pos af gd a w hf hb => ?_⟩
  rw [h2 dst ty pos af gd a w hf hb]
  exact ⟨rfl, hb⟩

/-- the cells of a flat value -/
def flatC : (t : Ty) → t.den → List Value
  | .int k, x => [.int k x]
  | .bool, x => [.bool x]
  | .str, x => [Eng.str x]
  | .st t, x => flatC t x
  | .pr a b, x => flatC a x.1 ++ flatC b x.2
  | _, _ => []
def plainV (d : Dn) : Value := sv d.1 (flatC d.1 d.2)
theorem flat_ok {φ : Phi} : ∀ {t : Ty} {x : t.den} {cs : List Value} {h : List Chunk}, t.flat = true → Rp φ t x cs h → cs = flatC t x ∧ h = []
  | .int _, _, _, _, _, r => r
  | .bool, _, _, _, _, r => r
  | .str, _, _, _, _, r => r
  | .unit, _, _, _, _, r => r
  | .st t, x, cs, h, hf, r => flat_ok (t := t) hf r
  | .pr a b, x, cs, h, hf, r => by
    have hf : (a.flat && b.flat) = true := hf
    rw [Bool.and_eq_true] at hf
    obtain ⟨c1, c2, h1, h2, e1, e2, r1, r2⟩ := r
    obtain ⟨q1, q2⟩ := flat_ok hf.1 r1
    obtain ⟨q3, q4⟩ := flat_ok hf.2 r2
    exact ⟨by rw [e1, q1, q3]; rfl, by rw [e2, q2, q4]; rfl⟩
theorem flat_mk {φ : Phi} : ∀ {t : Ty} {x : t.den}, t.flat = true → Rp φ t x (flatC t x) []
  | .int _, _, _ => ⟨rfl, rfl⟩
  | .bool, _, _ => ⟨rfl, rfl⟩
  | .str, _, _ => ⟨rfl, rfl⟩
  | .unit, _, _ => ⟨rfl, rfl⟩
  | .st t, x, hf => flat_mk (t := t) hf
  | .pr a b, x, hf => by
    have hf : (a.flat && b.flat) = true := hf
    rw [Bool.and_eq_true] at hf
    exact ⟨_, _, [], [], rfl, rfl, flat_mk hf.1, flat_mk hf.2⟩
theorem plain_tup {φ : Phi} {L : List Dn} {vs : List Value} {h : List Chunk} (ht : TupR φ L vs h) (hp : ∀ d ∈ L, d.1.plain = true) : vs = L.map plainV ∧ h = [] ∧ ∀ ψ, TupR ψ L vs [] := by
  induction ht with
  | nil => exact ⟨rfl, rfl, fun _ => .nil⟩
  | @cons t x cs h hs l vs h1 h2 h3 ih =>
    obtain ⟨e1, e2, e3⟩ := ih fun d hd => hp d (List.mem_cons_of_mem _ hd)
    have hpl := hp ⟨t, x⟩ List.mem_cons_self
    have hpl : (t.flat && t.top) = true := hpl
    rw [Bool.and_eq_true] at hpl
    have : sv t cs = plainV ⟨t, x⟩ ∧ h = [] ∧ ∀ ψ, Rp ψ t x cs [] := by
      obtain ⟨e4, e5⟩ := flat_ok hpl.1 h2
      subst e4
      exact ⟨rfl, e5, fun ψ => flat_mk hpl.1⟩
    exact ⟨by rw [this.1, e1]; rfl, by rw [this.2.1, e2]; rfl, fun ψ => by simpa using TupR.cons h1 (this.2.2 ψ) (e3 ψ)⟩

theorem plain_mk {φ : Phi} : ∀ {L : List Dn}, (∀ d ∈ L, d.1.plain = true) → TupR φ L (L.map plainV) []
  | [], _ => .nil
  | ⟨t, x⟩ :: l, h => by
    have h1 := h ⟨t, x⟩ List.mem_cons_self
    have h2 := plain_mk (φ := φ) (L := l) fun d hd => h d (List.mem_cons_of_mem _ hd)
    have h1 : (t.flat && t.top) = true := h1
    rw [Bool.and_eq_true] at h1
    exact TupR.cons (t := t) (x := x) (cs := flatC t x) (h := []) (hs := []) h1.2 (flat_mk h1.1) h2
theorem argsV_ok {W : Wit} {e : Env} {hs : List Chunk} (he : EnvR W S.env e hs) : ∀ (ps : List Par) (xs : List Operand) (z : prodT (ps.map Par.ty)), argsV S ps xs = some z → (∀ p ∈ ps, p.frz = true) → (∀ t, Par.val t ∈ ps → t.top = true) → ∃ vs, EVA e xs vs ∧ ArgsR W.φ ps z vs [] []
  | [], [], z => fun _ _ _ => ⟨[], .nil, .nil⟩
  | [p], [x], z => fun h hf ht => by
    have h : asTy p.ty (S.get x) = some z := h
    have h1 := hf p List.mem_cons_self
    cases p with
    | obj _ _ _ => cases h1
    | cfn _ => cases h1
    | val t =>
      have h1 : t = t.er := of_decide_eq_true h1
      obtain ⟨cs, h2, h3⟩ := asTy_get he h h1
      exact ⟨[sv t cs], .cons h2 .nil, ArgsR.val (r := []) (z := z) (h := []) (hs := []) (ht t List.mem_cons_self) h3 (.nil)⟩
  | p :: b :: q, x :: xs, z => fun h hf ht => by
    have h : (match asTy p.ty (S.get x), argsV S (b :: q) xs with | some y, some z => (some (y, z) : Option (prodT ((p :: b :: q).map Par.ty))) | _, _ => none) = some z := h
    cases hy : asTy p.ty (S.get x) with
    | none => rw [hy] at h; cases h
    | some y =>
      cases hz : argsV S (b :: q) xs with
      | none => rw [hy, hz] at h; cases h
      | some z' =>
        rw [hy, hz] at h
        injection h with h
        subst h
        have h1 := hf p List.mem_cons_self
        obtain ⟨vs, g1, g2⟩ := argsV_ok he (b :: q) xs z' hz (fun p' hp' => hf p' (List.mem_cons_of_mem _ hp')) (fun t ht' => ht t (List.mem_cons_of_mem _ ht'))
        cases p with
        | obj _ _ _ => cases h1
        | cfn _ => cases h1
        | val t =>
          have h1 : t = t.er := of_decide_eq_true h1
          obtain ⟨cs, h2, h3⟩ := asTy_get he hy h1
          exact ⟨sv t cs :: vs, .cons h2 g1, ArgsR.val (r := b :: q) (z := (y, z')) (h := []) (hs := []) (ht t List.mem_cons_self) h3 g2⟩
  | [], _ :: _, _ => fun h _ _ => by cases h
  | [_], [], _ => fun h _ _ => by cases h
  | [_], _ :: _ :: _, _ => fun h _ _ => by cases h
  | _ :: _ :: _, [], _ => fun h _ _ => by cases h
termination_by structural ps => ps

theorem unProd_tys : ∀ (l : List Ty) (z : prodT l), (unProd l z).map (·.1) = l
  | [], _ => rfl
  | [_], _ => rfl
  | a :: b :: q, z => by
    show a :: (unProd (b :: q) z.2).map (·.1) = _
    rw [unProd_tys (b :: q) z.2]
theorem outs_frz : ∀ {ps : List Par}, (∀ p ∈ ps, p.frz = true) → outs ps = []
  | [], _ => rfl
  | .val _ :: r, h => outs_frz (ps := r) fun p hp => h p (List.mem_cons_of_mem _ hp)
  | .cfn _ :: _, h => by have := h _ List.mem_cons_self; cases this
  | .obj _ _ _ _ :: _, h => by have := h _ List.mem_cons_self; cases this

/-- a call that takes and yields plain values alone -/
theorem plainCall_ok (hc : CtxOk P G c) {cl : Call} {f : Nat} {en : Entry} {x : Operand} (hcl : cl.callee = .value x) (hx : S.get x = .fn f) (hf : look c.fn f = some en) (hp : en.plain = true) {z : prodT (en.ps.map Par.ty)} (hz : argsV S en.ps cl.args.toList = some z)
    {q : prodT (en.rs ++ outs en.ps)} (hq : en.f z = some q) : POk P N C G S (.call cl) (tupD ((unProd (en.rs ++ outs en.ps) q).take en.rs.length)) := by
  intro W e eh oh hs
  have he := hc.fn f en hf
  unfold Entry.plain at hp
  simp only [Bool.and_eq_true, List.all_eq_true] at hp
  obtain ⟨vs, g1, g2⟩ := argsV_ok hs.env _ _ _ hz hp.1 he.top
  have hpl : ∀ d ∈ (unProd (en.rs ++ outs en.ps) q).take en.rs.length, d.1.plain = true := fun d hd => by
    refine hp.2 d.1 ?_
    have h1 : ((unProd (en.rs ++ outs en.ps) q).take en.rs.length).map (·.1) = en.rs := by
      rw [List.map_take, unProd_tys, List.take_left]
    rw [← h1]
    exact List.mem_map.2 ⟨d, hd, rfl⟩
  refine ⟨resVal (((unProd (en.rs ++ outs en.ps) q).take en.rs.length).map plainV), DR.res ⟨_, plain_mk hpl, rfl⟩, ?_⟩
  intro dst ty pos af gd a w hfr hb
  have h0 : (execOp a.eval ⟨dst, .call cl, ty, pos, af, gd⟩).run P w = .ok (.enter f vs.toArray) w := by
    have := run_call (P := P) (w := w) (d := dst) (ty := ty) (pos := pos) (af := af) (gd := gd) (ats := cl.argTypes) he.go (a := a) (fo := x) (hfr.ev (get_fn hs.env hx)) (hfr.eva g1)
    rw [← this]
    congr 4
    cases cl with
    | mk callee args ats => simp only at hcl; subst hcl; simp
  rw [h0]
  have hb0 : Hb C w ([] ++ (eh ++ oh)) (Inv G W.φ) := hb
  refine (he.ok z q hq (C.sub w [] (eh ++ oh)) W.φ vs [] [] g2 hb0.pass).mono fun y w' hy => ?_
  obtain ⟨v, φ', h1, h2, rfl, hle, hb1, ⟨us, t1, rfl⟩, _⟩ := hy
  obtain ⟨e1, _, _⟩ := plain_tup t1 hpl
  refine ⟨by rw [e1], ?_⟩
  have hb2 := hb0.back hb1
  exact (Sub.right.hb hb2).imp fun _ h => h.1
end
end Go.Lf
