/-
  Operations that turn more than their slot: loads that take, stores, new blocks.
-/
import Derived.Test.YtkfcinmgebhbhaaDoorQSnd8
namespace Go.Lf
open Go Go.Eng

section
variable {P : Program} {N : Nat} {C : Cx} {G : World → Prop} {c : Ctx} {S : St} {Rt : Type} {k : St → Option Rt} {r : Rt} {a : Act} {w : World}
variable {W : Wit} {e : Env} {eh oh : List Chunk} {dst : Option Tmp} {ty : TypeId} {pos : String} {af : Array Edge} {gd : Option (Nat × Bool)}

theorem perm3 {A B h r : List Chunk} {h1 h3 : List Chunk} : (A ++ (h1 ++ h ++ h3) ++ r).Perm (h ++ (A ++ (h1 ++ [] ++ h3) ++ r)) := by
  simp only [List.append_assoc, List.nil_append]
  refine List.Perm.trans ?_ (List.perm_append_comm_assoc _ _ _)
  exact List.Perm.append_left _ (List.perm_append_comm_assoc _ _ _)

theorem loadT_ok (hc : CtxOk P G c) (hn : c.n = N) {tid : Nat} {x : Operand} (h : loadT c ⟨dst, .load tid x, ty, pos, af, gd⟩ S tid k (S.get x) = some r) : ∃ S', k S' = some r ∧ ∀ a w, At N C G S a w → OpWp P N C G ⟨dst, .load tid x, ty, pos, af, gd⟩ S' a w := by
  generalize hx : S.get x = dx at h
  unfold loadT at h
  split at h <;> first | cases h | skip
  rename_i j p off
  split at h <;> first | cases h | skip
  rename_i t y i hat hi
  split at h
  case isFalse => cases h
  case isTrue he =>
  cases htop : t.top with
  | false => rw [htop] at h; cases h
  | true =>
    rw [htop] at h
    simp only [cond_true] at h
    split at h
    case h_2 => cases h
    case h_1 y' hy =>
    split at h
    case h_2 => cases h
    case h_1 S1 hset =>
    obtain ⟨S', h1, h2⟩ := out_ok (C := C) (G := G) hn h
    refine ⟨S', h1, fun a w ⟨W, e, eh, oh, hs, hf, hb⟩ => ?_⟩
    obtain ⟨tb, pre, mid, post, hm, q1, q2, q3, q4, _⟩ := atC_cells hs.obs hat
    obtain ⟨ob, pre2, mid2, post2, k1, k2, k3, rr, s, g1, g2, g3, g4, g5, g6, g7, g8⟩ := setO_ok hset hs
    have hat2 := (atC_ok hat).1
    have hs2 : s = ⟨t, y⟩ := Option.some.inj (g2.symm.trans hat2)
    subst hs2
    have hinj := append_inj3 (q1.symm.trans g4) (q2.trans g5.symm) (by rw [q3.len, g6.len])
    obtain ⟨rfl, rfl, rfl⟩ := hinj
    obtain ⟨h', r1, _⟩ := coe_ok hy g6
    have := Rp.er_nil (Ty.er_er t).symm r1
    subst this
    obtain ⟨oh', w1, w2⟩ := g8 W.φ mid [] W.φ.le_refl r1
    rw [← g4, upd_same] at w1
    rw [← g4] at w2
    have hrun : (execOp a.eval ⟨dst, .load tid x, ty, pos, af, gd⟩).run P w = .ok (.value (sv t mid)) w := by
      rcases sv_cases htop g6 with ⟨t', e1, e2⟩ | ⟨e1, v, e2, e3⟩
      · rw [e2]
        have hi2 : i.ty = .st t'.er := by rw [← he, e1]; rfl
        have h5 := (hc.ty _ _ hi).agt _ hi2
        have hlen : mid.length = t'.er.size := by rw [g6.len]; show t.size = _; rw [e1, Ty.er_size]; rfl
        exact R.lda (n := mid.length) (by rw [hlen]; exact h5) (get_ref hs.env hx) (List.mem_append_right _ q4) (by rw [q1, ← q2]; exact LGet_of _ _ _) a w hf hb
      · rw [e3]
        subst e2
        exact R.ld ((hc.ty _ _ hi).sc (fun t' e => by rw [← he] at e; obtain ⟨t0, e5, _⟩ := er_st e; exact e1 _ e5)) (get_ref hs.env hx) (List.mem_append_right _ q4) (by rw [q1, ← q2]; simp) a w hf hb
    refine .value hrun (h2 W e eh oh' _ k2 a w w1 ⟨mid, htop, rfl, g6⟩ hf ?_)
    refine ((Sub.app (Sub.refl eh) ((Sub.perm g7).trans ((Sub.perm (perm3 (B := []))).trans (Sub.app (Sub.refl k2) (Sub.perm w2.symm))))).trans (Sub.perm (List.perm_append_comm_assoc _ _ _))).hb hb

/-- the run of a store -/
theorem run_store {t g tb o : Nat} {x y : Operand} {v : Value} {vs pre mid post : List Value} (ht : tSz P t vs.length = true) (hx : a.eval x = .pointer (some ⟨g, o, none⟩)) (hy : a.eval y = v) (hv : v.cells = vs.toArray) (h1 : ∀ u ∈ vs, u.oneCell' = true)
    (hh : (blk g tb (pre ++ mid ++ post)).holds w) (ho : pre.length = o) (hm : mid.length = vs.length) :
    (execOp a.eval ⟨dst, .store t x y, ty, pos, af, gd⟩).run P w = .ok .skip (w.setRow g (pre ++ vs ++ post).toArray) := by
  have hg : w.heap[g]? = some (.cells (pre ++ mid ++ post).toArray tb (0, 0)) := hh
  subst ho
  have hr0 := run_storeCells_at (P := P) g pre.length tb vs 0 (pre ++ mid ++ post).toArray w hg (by simp; omega) h1
  have hl : (List.take (pre.length + 0) (pre ++ mid ++ post).toArray.toList ++ vs ++ List.drop (pre.length + 0 + vs.length) (pre ++ mid ++ post).toArray.toList) = pre ++ vs ++ post := by
    simp only [Nat.add_zero]
    rw [← hm]
    rw [List.append_assoc pre mid post, List.take_left, List.drop_append, List.drop_eq_nil_of_le (by omega), show pre.length + mid.length - pre.length = mid.length by omega, List.drop_left]
    simp
  rw [hl] at hr0
  simp [execOp, hx, hy, Instr.storeAt, Instr.sureAddr, storeVar, run_sizeOf' ht, hv, hr0]

theorem ext_setRow {g t : Nat} {l : List Value} {l' : Array Value} (h : (blk g t l).holds w) : Ext (fun _ => none) [blk g t l] w (w.setRow g l') := by
  have hk : ∀ k, k ≠ g → (w.setRow g l').heap[k]? = w.heap[k]? := fun k hne => by
    simp only [World.setRow, Array.getElem?_modify]
    rw [if_neg (fun e => hne e.symm)]
  refine ⟨rfl, rfl, rfl, by simp [World.setRow], fun k _ _ hf => hk k fun e => hf (blk g t l) (by simp) (by rw [e]; rfl), fun _ _ _ h _ => (by cases h), fun d hd k hk2 _ => ?_⟩
  have : d = blk g t l := by simpa using hd
  subst this
  exact Same.zero
theorem setRow_holds {g t : Nat} {l l' : List Value} (h : (blk g t l).holds w) : (blk g t l').holds (w.setRow g l'.toArray) := by
  have h1 : w.heap[g]? = some (.cells l.toArray t (0, 0)) := h
  show (w.setRow g l'.toArray).heap[g]? = _
  simp [World.setRow, Array.getElem?_modify, h1]

/-- a part of an object's block is written -/
theorem store_core {j : Nat} {p : List Dir} {o : Nat} {y : Dn} {S' : St} {tid : Nat} {x z : Operand} {v : Value} {vs : List Value} {hv : List Chunk} (hset : S.setO j p o y = some S') (hs : SRel S W e eh oh) (hf : Fr a N e)
    (hcell : ∃ ob tb, look S.objs j = some ob ∧ ob.tid = some tb)
    (hx : EV e x (.pointer (some ⟨W.adr j, o, none⟩))) (hz : EV e z v) (hvc : v.cells = vs.toArray) (hr : Rp W.φ y.1 y.2 vs hv) (ht : tSz P tid y.1.size = true) (hb : Hb C w (hv ++ (eh ++ oh)) (Inv G W.φ)) :
    OpWp P N C G ⟨none, .store tid x z, ty, pos, af, gd⟩ S' a w := by
  obtain ⟨ob, pre, mid, post, h1, h2, h3, rr, s, g1, g2, g3, g4, g5, g6, g7, g8⟩ := setO_ok hset hs
  obtain ⟨ob2, tb, hob, htb⟩ := hcell
  have he : ob2 = ob := Option.some.inj (hob.symm.trans g1)
  subst he
  rw [htb] at g7 g8
  obtain ⟨oh', w1, w2⟩ := g8 W.φ vs hv W.φ.le_refl hr
  have hml : mid.length = vs.length := by rw [g6.len, hr.len, ← Ty.er_size s.1, ← g3, Ty.er_size]
  rw [g4] at g7
  have hb1 : Hb C w (blk (W.adr j) tb (pre ++ mid ++ post) :: (eh ++ (h1 ++ hv ++ h3) ++ rr)) (Inv G W.φ) := by
    refine ((Sub.app (Sub.refl hv) (Sub.app (Sub.refl eh) ((Sub.perm g7).trans (Sub.app (Sub.app (Sub.refl _) (Sub.app (Sub.app (Sub.refl h1) (Sub.nil h2)) (Sub.refl h3))) (Sub.refl rr))))).trans (Sub.perm ?_)).hb hb
    simp only [obBlk, List.append_assoc, List.nil_append, List.cons_append]
    refine (List.perm_append_comm_assoc _ _ _).trans ?_
    refine (List.Perm.append_left eh (List.perm_middle (l₁ := hv))).trans ?_
    refine (List.perm_middle (l₁ := eh)).trans (List.Perm.cons _ (List.Perm.append_left eh ?_))
    exact List.perm_append_comm_assoc _ _ _
  have hh := hb1.hp.hold _ List.mem_cons_self
  have hrun := run_store (P := P) (dst := none) (ty := ty) (pos := pos) (af := af) (gd := gd) (t := tid) (by rw [hr.len]; exact ht) (hf.ev hx) (hf.ev hz) hvc hr.one hh g5 hml
  refine .skip hrun ⟨_, e, eh, oh', w1, hf, ?_⟩
  have hb2 := hb1.turn (ext_setRow hh) (setRow_holds (l' := pre ++ vs ++ post) hh) (fun g hg => .inl ⟨hg, Nat.zero_le _⟩)
  refine (Sub.perm ?_).hb hb2
  have := (w2.append_left eh).symm
  refine List.Perm.trans ?_ this
  simp only [obBlk, List.append_assoc, List.cons_append, List.nil_append]
  exact (List.perm_middle (l₁ := eh)).symm
end

section
variable {P : Program} {N : Nat} {C : Cx} {G : World → Prop} {c : Ctx} {S : St} {W : Wit} {e : Env} {eh oh : List Chunk}
/-- a variable is read -/
theorem load_run {φ : Phi} {id g off : Nat} {i : TyI} {t : Ty} {y : t.den} {pre mid post : List Value} {hm : List Chunk} (ho : TyOk P id i) (he : t.er = i.ty) (r : Rp φ t y mid hm) (ht : t.top = true ∨ ∃ el a, t = .mr el a) (hp : pre.length = off) {w : World} {tb : Nat} (hb : (blk g tb (pre ++ mid ++ post)).holds w) :
    (loadVar id ⟨g, off, none⟩).run P w = .ok (sv t mid) w := by
  have hcell : ∀ j v, mid[j]? = some v → w.cell? ((⟨g, off, none⟩ : Addr).add j) = some v := fun j v hj => by
    have h1 := blk_cell (j := off + j) (v := v) hb (by
      rw [← hp, List.append_assoc, List.getElem?_append_right (by omega), show pre.length + j - pre.length = j by omega, List.getElem?_append_left (List.getElem?_eq_some_iff.1 hj).1]
      exact hj)
    unfold Addr.add
    split
    · rename_i hj0; subst hj0; simpa using h1
    · exact h1
  have one : (∀ t', t ≠ .st t') → ∀ v, mid = [v] → sv t mid = v → (loadVar id ⟨g, off, none⟩).run P w = .ok (sv t mid) w := fun e1 v e2 e3 => by
    rw [e3]
    have h0 := hcell 0 v (by rw [e2]; rfl)
    exact run_loadVar_sc (ho.sc (fun t' e => by rw [← he] at e; obtain ⟨t0, e5, _⟩ := er_st e; exact e1 _ e5)) h0
  rcases ht with ht | ⟨el, a, rfl⟩
  · rcases sv_cases ht r with ⟨t', e1, e2⟩ | ⟨e1, v, e2, e3⟩
    · rw [e2]
      have hi2 : i.ty = .st t'.er := by rw [← he, e1]; rfl
      have h5 := ho.agt _ hi2
      have hlen : mid.length = t'.er.size := by rw [r.len]; show t.size = _; rw [e1, Ty.er_size]; rfl
      exact run_loadVar_ag (by rw [hlen]; exact h5) hcell
    · exact one e1 v e2 e3
  · obtain ⟨A, cc, css, rfl, _⟩ := r
    exact one (fun t' e => by cases e) _ rfl rfl
/-- a slot's rights in a variable are taken -/
theorem take_ok {j off : Nat} {p : List Dir} {t : Ty} {y : t.den} {y' : t.er.den} {S1 : St} {id : Nat} {i : TyI} (ho : TyOk P id i) (hat : S.atC j p off = some ⟨t, y⟩) (he : t.er = i.ty) (htop : t.top = true) (hy : coe t t.er y = some y') (hset : S.setO j p off ⟨t.er, y'⟩ = some S1) (hs : SRel S W e eh oh) :
    ∃ mid hm oh', Rp W.φ t y mid hm ∧ SRel S1 W e eh oh' ∧ oh.Perm (hm ++ oh') ∧ ∀ w, Hb C w (eh ++ oh) (Inv G W.φ) → (loadVar id ⟨W.adr j, off, none⟩).run P w = .ok (sv t mid) w := by
  obtain ⟨tb, pre, mid, post, hm, q1, q2, q3, q4, _⟩ := atC_cells hs.obs hat
  obtain ⟨ob, pre2, mid2, post2, k1, k2, k3, rr, s, g1, g2, g3, g4, g5, g6, g7, g8⟩ := setO_ok hset hs
  have hat2 := (atC_ok hat).1
  have hs2 : s = ⟨t, y⟩ := Option.some.inj (g2.symm.trans hat2)
  subst hs2
  have hinj := append_inj3 (q1.symm.trans g4) (q2.trans g5.symm) (by rw [q3.len, g6.len])
  obtain ⟨rfl, rfl, rfl⟩ := hinj
  obtain ⟨h', r1, _⟩ := coe_ok hy g6
  have := Rp.er_nil (Ty.er_er t).symm r1
  subst this
  obtain ⟨oh', w1, w2⟩ := g8 W.φ mid [] W.φ.le_refl r1
  rw [← g4, upd_same] at w1
  rw [← g4] at w2
  refine ⟨mid, k2, oh', g6, w1, g7.trans ((by simpa using perm3 (A := obBlk W j ob.tid (W.hd j)) (B := []) : List.Perm _ _).trans (List.Perm.append_left k2 w2.symm)), fun w hb => ?_⟩
  refine load_run ho he g6 (.inl htop) g5 (tb := tb) (pre := pre) (post := post) ?_
  rw [← g4]
  exact hb.has (List.mem_append_right _ q4)

end
end Go.Lf
