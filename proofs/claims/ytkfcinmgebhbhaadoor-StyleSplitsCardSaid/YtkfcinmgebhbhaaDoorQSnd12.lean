/-
  Operations that turn more than their slot: cuts, interfaces, rows that grow, calls.
-/
import Derived.Test.YtkfcinmgebhbhaaDoorQSnd11
namespace Go.Lf
open Go Go.Eng

section
variable {P : Program} {N : Nat} {C : Cx} {G : World → Prop} {c : Ctx} {S : St} {Rt : Type} {k : St → Option Rt} {r : Rt} {a : Act} {w : World}
variable {W : Wit} {e : Env} {eh oh : List Chunk} {dst : Option Tmp} {ty : TypeId} {pos : String} {af : Array Edge} {gd : Option (Nat × Bool)}

theorem row_cut {φ : Phi} {p : Bool} {A : Option Addr} {el size n m cc : Nat} {xs : List Value} {rest : List Chunk} (hb : Hb C w (.row false (.slice A n cc) el size n xs :: rest) (Inv G φ)) (hm : m ≤ n) :
    Hb C w (.row false (.slice A m cc) el size m (xs.take (m * size)) :: rest) (Inv G φ) := by
  have hown : w.ownsRow 0 el size (.slice A n cc) n xs := hb.hp.hold _ List.mem_cons_self
  have hms : m * size ≤ n * size := Nat.mul_le_mul_right _ hm
  refine hb.turn (c' := .row false (.slice A m cc) el size m (xs.take (m * size))) (Ext.refl _ _ _) ⟨by rw [List.length_take, hown.1]; omega, ?_⟩ (fun g hg => .inl ⟨by cases A <;> exact hg, Nat.le_refl _⟩)
  rcases hown.2 with ⟨hv, hn⟩ | ⟨g, cap, cur, hv, h0, hg, hnc, hcm, hcs, htk⟩
  · injection hv with e1 e2 e3
    subst e1 e3 hn
    have : m = 0 := by omega
    subst this
    exact .inl ⟨rfl, rfl⟩
  · injection hv with e1 e2 e3
    subst e1 e3
    exact .inr ⟨g, cc, cur, rfl, h0, hg, by omega, hcm, hcs, by rw [← htk, List.take_take, Nat.min_eq_left hms]⟩

theorem sliceT_ok (hc : CtxOk P G c) (hn : c.n = N) {tx : Nat} {x : Operand} {lo hi : Option Operand} (h : sliceT c tx ⟨dst, .slice tx x lo hi none, ty, pos, af, gd⟩ S x lo hi k = some r) : ∃ S', k S' = some r ∧ ∀ a w, At N C G S a w → OpWp P N C G ⟨dst, .slice tx x lo hi none, ty, pos, af, gd⟩ S' a w := by
  unfold sliceT at h
  cases dst with
  | none => simp only at h; split at h <;> first | cases h | skip; rename_i h1 h2; cases h2
  | some d =>
  simp only at h
  split at h
  case h_2 => cases h
  case h_1 j p off d' hx hd' =>
  have hd' : d = d' := by injection hd'
  subst hd'
  cases hd : mem d c.tk with
  | true =>
    rw [hd] at h
    simp only [cond_true] at h
    split at h
    case h_2 => cases h
    case h_1 el t l S1 hta =>
    cases hb : isTy c tx (.sl t) with
    | false => rw [hb] at h; cases h
    | true =>
      rw [hb] at h
      simp only [cond_true] at h
      obtain ⟨ti, hti, ho⟩ := isTyOk hc.ty hb
      split at h
      case h_2 => cases h
      case h_1 b hbd =>
      obtain ⟨m, hm, h⟩ := Option.bind_eq_some_iff.1 h
      obtain ⟨q1, q2, q3, q4⟩ := sub_ok hm
      obtain ⟨S', h1, h2⟩ := newA_ok (C := C) (G := G) hn h
      refine ⟨S', h1, fun a w ⟨W, e, eh, oh, hs, hf, hb2⟩ => ?_⟩
      obtain ⟨v, h0, oh1, b1, b2, b3, b4, _⟩ := takeA_ok hta hs
      obtain ⟨A, cc, css, m1, m2, m3, m4, m5⟩ := b2
      have m2' : List.length l ≤ cc := m2
      have hv : v = .slice A (List.length l) cc := by injection m1
      subst hv
      obtain ⟨v', hh, rr, r1, ⟨r2, _⟩, _⟩ := raw_ok hs.env (x := x) (by rw [hx]; intro e; cases e) |> fun ⟨v, hh, rr, q1, q2, q3⟩ => (⟨v, hh, rr, q1, (by rw [hx] at q2; exact q2), q3⟩ : ∃ v h r, EV e x v ∧ ((W.hd j)[off]? = some v ∧ h = []) ∧ eh.Perm (h ++ r))
      have hvv : v' = .slice A (List.length l) cc := Option.some.inj (r2.symm.trans b1)
      subst hvv
      have hbn : b.toNat ≤ List.length l := by omega
      have hml : m = l.take b.toNat := by rw [q4]; simp
      have hmn : m.length = b.toNat := by rw [hml, List.length_take]; omega
      have hrun := R.sll (P := P) (N := N) (C := C) (hs := eh ++ oh) (I := Inv G W.φ) (d := some d) (ty := ty) (pos := pos) (af := af) (gd := gd) (ho.sl t hti).1 r1 (.no : Bnd e 0 none 0) (bnd_ok hs.env hbd rfl (by omega)) (Nat.zero_le _) (by omega) a w hf hb2
      have hcut : cutA A cc 0 t.size = A := by unfold cutA; split; rfl; cases A <;> simp [Addr.add]
      rw [hcut, Nat.sub_zero, Nat.sub_zero] at hrun
      refine .value hrun ?_
      have hall : ∀ cx ∈ css, cx.length = t.size := fun cx hcx => by
        obtain ⟨ix, hix⟩ := List.getElem?_of_mem hcx
        have hlt := (List.getElem?_eq_some_iff.1 hix).1
        rw [← m3.length] at hlt
        obtain ⟨b', hb1, hb3⟩ := m3.get (List.getElem?_eq_getElem hlt)
        rw [hix] at hb1
        injection hb1 with hb1
        subst hb1
        exact hb3.len
      have m5' : h0 = [.row false (.slice A (List.length l) cc) el t.size (List.length l) css.flatten] := m5
      rw [m5'] at b4
      have hb3 := row_cut (p := false) (m := b.toNat) (((Sub.app (Sub.refl eh) b4).trans (Sub.perm (List.perm_append_comm_assoc _ _ _))).hb hb2) hbn
      rw [← flat_take css hall] at hb3
      have := h2 W e eh oh1 A cc (css.take b.toNat) a w b3 (by rw [hmn]; omega) (by rw [hml]; exact m3.take _) (fun hp => m4 (by rw [hmn] at hp; show 0 < List.length l; omega)) hf (by rw [hmn]; exact hb3)
      rw [hmn] at this
      exact this
  | false =>
    rw [hd] at h
    simp only [cond_false] at h
    split at h
    case h_2 => cases h
    case h_1 t l S1 hop =>
    cases hb : isTy c tx (.sl t) with
    | false => rw [hb] at h; cases h
    | true =>
      rw [hb] at h
      simp only [cond_true] at h
      obtain ⟨ti, hti, ho⟩ := isTyOk hc.ty hb
      split at h
      case h_2 => cases h
      case h_1 b1 b2 hl hh =>
      obtain ⟨m, hm, h⟩ := Option.bind_eq_some_iff.1 h
      obtain ⟨q1, q2, q3, q4⟩ := sub_ok hm
      obtain ⟨S', h1, h2⟩ := out_ok (C := C) (G := G) hn h
      refine ⟨S', h1, fun a w ⟨W, e, eh, oh, hs, hf, hb2⟩ => ?_⟩
      obtain ⟨t', l', hy, v, φ', oh', g1, g2, g3, g4, g5⟩ := open_ok hop hs hb2
      injection hy with hy1 hy2
      injection hy1 with hy1
      subst hy1
      have hy2 := eq_of_heq hy2
      subst hy2
      obtain ⟨A, cc, css, m1, m2, m3, m4, _⟩ := g3
      have hv : v = .slice A (List.length l) cc := by injection m1
      subst hv
      obtain ⟨v', hh2, rr, r1, ⟨r2, _⟩, _⟩ := raw_ok hs.env (x := x) (by rw [hx]; intro e; cases e) |> fun ⟨v, hh, rr, q1, q2, q3⟩ => (⟨v, hh, rr, q1, (by rw [hx] at q2; exact q2), q3⟩ : ∃ v h r, EV e x v ∧ ((W.hd j)[off]? = some v ∧ h = []) ∧ eh.Perm (h ++ r))
      have hvv : v' = .slice A (List.length l) cc := Option.some.inj (r2.symm.trans g1)
      subst hvv
      have hrun := R.sll (P := P) (N := N) (C := C) (hs := eh ++ oh) (I := Inv G W.φ) (d := some d) (ty := ty) (pos := pos) (af := af) (gd := gd) (ho.sl t hti).1 r1 (bnd_ok hs.env hl rfl q1) (bnd_ok hs.env hh rfl (by omega)) (by omega) (by omega) a w hf hb2
      refine .value hrun (h2 ⟨φ', W.adr, W.hd⟩ e eh oh' _ [] a w g4 ⟨_, rfl, rfl, q4 ▸ Rp.cut m2 m3 m4 (a := b1.toNat) (b := b2.toNat) (by omega) (by omega)⟩ hf g5)

theorem makeIT_ok (hc : CtxOk P G c) (hn : c.n = N) {t : Nat} {x : Operand} (h : effE c ⟨dst, .makeInterface t x, ty, pos, af, gd⟩ S k = some r) : ∃ S', k S' = some r ∧ ∀ a w, At N C G S a w → OpWp P N C G ⟨dst, .makeInterface t x, ty, pos, af, gd⟩ S' a w := by
  simp only [effE] at h
  split at h
  case h_2 => cases h
  case h_1 t' el sz j hi hx =>
  split at h
  case h_2 => cases h
  case h_1 ob hob =>
  split at h
  case isFalse => cases h
  case isTrue he =>
  split at h
  case h_2 => cases h
  case h_1 tid ht =>
  split at h
  case h_2 => cases h
  case h_1 y hy =>
  obtain ⟨S', h1, h2⟩ := out_ok (C := C) (G := G) hn h
  refine ⟨S', h1, fun a w ⟨W, e, eh, oh, hs, hf, hb⟩ => ?_⟩
  obtain ⟨v, hh, rr, r1, ⟨r2, _⟩, _⟩ := raw_ok hs.env (x := x) (by rw [hx]; intro e; cases e) |> fun ⟨v, hh, rr, q1, q2, q3⟩ => (⟨v, hh, rr, q1, (by rw [hx] at q2; exact q2), q3⟩ : ∃ v h r, EV e x v ∧ (v = Value.pointer (some ⟨W.adr j, 0, none⟩) ∧ h = []) ∧ eh.Perm (h ++ r))
  subst r2
  obtain ⟨h0, r', ⟨hc0, b1, b2⟩, b3, _, b5⟩ := hs.obs.set hs.nd hob
  rw [ht] at b2
  have b2 : h0 = blk (W.adr j) tid (W.hd j) :: hc0 := b2
  subst b2
  obtain ⟨h', r3, _⟩ := coe_ok hy b1
  have := Rp.er_nil (Ty.er_er ob.t).symm r3
  subst this
  have hb1 : Hb C w (blk (W.adr j) tid (W.hd j) :: (eh ++ r')) (Inv G W.φ) := by
    refine ((Sub.app (Sub.refl eh) ((Sub.perm b3).trans (?_ : Sub _ (blk (W.adr j) tid (W.hd j) :: r')))).trans (Sub.perm (List.perm_middle (l₁ := eh)))).hb hb
    exact Sub.cons (Sub.right)
  obtain ⟨φ', f1, f2, f3⟩ := freeze_blk hb1
  obtain ⟨oh', k1, k2⟩ := b5 φ' f1
  have hpt := (hc.ty _ _ hi).ptr t' rfl
  unfold tPt at hpt
  split at hpt
  case h_2 => cases hpt
  case h_1 u hu =>
  have hrun := R.mi (P := P) (N := N) (C := C) (e := e) (hs := eh ++ oh) (I := Inv G W.φ) (d := dst) (ty := ty) (pos := pos) (af := af) (gd := gd) hu (by intro m e; cases e) r1 a w hf hb
  refine .value hrun (h2 ⟨φ', W.adr, W.hd⟩ e eh oh' _ [] a w ⟨(hs.env.killJ0 j).mono f1 rfl rfl, k1, (dell_nodup j hs.nd).1⟩ ⟨[_], rfl, rfl, rfl, _, _, rfl, r3.mono f1, f2⟩ hf ?_)
  exact (Sub.app (Sub.refl eh) (Sub.perm k2.symm)).hb f3
end
end Go.Lf
