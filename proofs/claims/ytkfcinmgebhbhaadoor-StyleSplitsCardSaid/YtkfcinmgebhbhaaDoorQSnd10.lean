/-
  Operations that turn more than their slot: stores, new objects.
-/
import Derived.Test.YtkfcinmgebhbhaaDoorQSnd9
namespace Go.Lf
open Go Go.Eng

section
variable {P : Program} {N : Nat} {C : Cx} {G : World → Prop} {c : Ctx} {S : St} {Rt : Type} {k : St → Option Rt} {r : Rt} {a : Act} {w : World}
variable {W : Wit} {e : Env} {eh oh : List Chunk} {dst : Option Tmp} {ty : TypeId} {pos : String} {af : Array Edge} {gd : Option (Nat × Bool)}

theorem nilAt_ok {φ : Phi} {t : Ty} {y : Dn} (h : nilAt t = some y) : ∃ h0, Rp φ y.1 y.2 [.slice none 0 0] h0 ∧ Sub [] h0 ∧ y.1.er = t.er ∧ y.1.size = 1 := by
  unfold nilAt at h
  split at h
  case h_5 => cases h
  all_goals
    simp only [Option.some.injEq] at h
    subst h
  · exact ⟨_, ⟨none, 0, [], rfl, Nat.le_refl _, .nil, fun h => absurd h (by simp), rfl⟩, Sub.nilrow false _ _, rfl, rfl⟩
  · exact ⟨[], ⟨none, 0, [], rfl, Nat.le_refl _, .nil, fun h => absurd h (by simp), rfl⟩, Sub.refl _, rfl, rfl⟩
  · exact ⟨_, ⟨none, 0, [], rfl, Nat.le_refl _, .nil, fun h => absurd h (by simp), rfl⟩, Sub.nilrow true _ _, rfl, rfl⟩
  · exact ⟨_, ⟨none, 0, [], rfl, Nat.le_refl _, .nil, fun h => absurd h (by simp), rfl⟩, Sub.nilrow false _ _, rfl, rfl⟩

/-- what an operand yields as a value of a type, whatever it is but a head -/
theorem asTy_raw {x : Operand} {t : Ty} {y : t.den} {d : D} (hs : EnvR W S.env e eh) (hd : S.raw x = d) (ha : asTy t d = some y) (hf : t = t.er) : ∃ cs v, EV e x v ∧ v.cells = cs.toArray ∧ Rp W.φ t y cs [] ∧ v = sv t cs ∧ t.top = true := by
  have hne : d ≠ .und := fun e => by rw [e] at ha; cases ha
  obtain ⟨v, h1, r, q1, q2, q3⟩ := raw_ok hs (x := x) (by rw [hd]; exact hne)
  rw [hd] at q2
  unfold asTy at ha
  split at ha
  · rename_i t' x'
    obtain ⟨cs, g1, rfl, g3⟩ := q2
    obtain ⟨h', r1, _⟩ := coe_ok ha g3
    have := Rp.er_nil hf r1
    subst this
    have htop := coe_top ha g1
    exact ⟨cs, _, q1, by rw [coe_sv ha cs]; exact sv_one htop r1, r1, coe_sv ha cs, htop⟩
  · obtain ⟨rfl, _⟩ := q2
    split at ha
    case h_4 => cases ha
    case h_1 =>
      simp only [Option.some.injEq] at ha
      subst ha
      exact ⟨[.slice none 0 0], _, q1, rfl, ⟨none, 0, [], rfl, Nat.le_refl _, .nil, fun h => absurd h (by simp), rfl⟩, rfl, rfl⟩
    all_goals simp [Ty.er] at hf
  · obtain ⟨rfl, _⟩ := q2
    split at ha
    case h_2 => cases ha
    case h_1 =>
      simp only [Option.some.injEq] at ha
      subst ha
      exact ⟨[.nilIface], _, q1, rfl, ⟨rfl, rfl⟩, rfl, rfl⟩
  · cases ha

theorem setK_ok {j : Nat} {p : List Dir} {off : Nat} {y : Dn} (h : setK S j p off y k = some r) : ∃ S', S.setO j p off y = some S' ∧ k S' = some r ∧ ∃ ob tb, look S.objs j = some ob ∧ ob.tid = some tb := by
  unfold setK at h
  split at h
  · rename_i y0 S1 h1 h2
    obtain ⟨_, ob, tb, g1, g2⟩ := atC_ok h1
    exact ⟨S1, h2, h, ob, tb, g1, g2⟩
  · cases h
theorem strip_objs (x : Operand) : (S.strip x).objs = S.objs := by
  unfold St.strip
  split
  · split <;> rfl
  · rfl
theorem flat_put {s : Nat} {css : List (List Value)} {n : Nat} {pre mid post vs : List Value} (hall : ∀ c ∈ css, c.length = s) (hn : css[n]? = some (pre ++ mid ++ post)) (hv : vs.length = mid.length) :
    (css.set n (pre ++ vs ++ post)).flatten = css.flatten.take (n * s + pre.length) ++ vs ++ css.flatten.drop (n * s + pre.length + vs.length) ∧ n * s + pre.length + vs.length ≤ css.flatten.length := by
  have hlt := (List.getElem?_eq_some_iff.1 hn).1
  have hm : (pre ++ mid ++ post).length = s := hall _ (List.mem_of_getElem? hn)
  have hm2 : (pre ++ vs ++ post).length = s := by simp only [List.length_append] at hm ⊢; omega
  have hself : css.set n (pre ++ mid ++ post) = css := by
    apply List.ext_getElem?
    intro i
    rw [List.getElem?_set]
    split
    · rename_i he; subst he; first | rw [if_pos hlt, hn] | rw [hn]
    · rfl
  have h1 := flat_set css hall n (pre ++ vs ++ post) hlt hm2
  have h2 := flat_set css hall n (pre ++ mid ++ post) hlt hm
  rw [hself] at h2
  have hA : (css.flatten.take (n * s)).length = n * s := by
    rw [List.length_take, flat_len css hall]
    have : n * s ≤ css.length * s := Nat.mul_le_mul_right _ (by omega)
    omega
  rw [h1]
  constructor
  · have e1 : css.flatten.take (n * s + pre.length) = css.flatten.take (n * s) ++ pre := by
      have : css.flatten = (css.flatten.take (n * s) ++ pre) ++ (mid ++ post ++ css.flatten.drop (n * s + s)) := by
        rw [List.append_assoc, ← List.append_assoc pre, ← List.append_assoc pre, ← List.append_assoc]
        exact h2
      have h3 : (css.flatten.take (n * s) ++ pre).length = n * s + pre.length := by rw [List.length_append, hA]
      exact (congrArg (List.take (n * s + pre.length)) this).trans (List.take_left' h3)
    have e2 : css.flatten.drop (n * s + pre.length + vs.length) = post ++ css.flatten.drop (n * s + s) := by
      have : css.flatten = (css.flatten.take (n * s) ++ pre ++ mid) ++ (post ++ css.flatten.drop (n * s + s)) := by
        rw [← List.append_assoc]
        simpa [List.append_assoc] using h2
      have h3 : (css.flatten.take (n * s) ++ pre ++ mid).length = n * s + pre.length + vs.length := by rw [List.length_append, List.length_append, hA, hv]
      exact (congrArg (List.drop (n * s + pre.length + vs.length)) this).trans (List.drop_left' h3)
    rw [e1, e2]
    simp
  · have := congrArg List.length h2
    simp only [List.length_append] at this
    rw [hA] at this
    rw [this, hv]
    omega
/-- a part of a row that nobody else sees is written -/
theorem row_store {φ : Phi} {A0 : Addr} {n0 cc el s off : Nat} {xs vs : List Value} {rest : List Chunk} (hb : Hb C w (.row false (.slice (some A0) n0 cc) el s n0 xs :: rest) (Inv G φ)) (h1 : ∀ u ∈ vs, u.oneCell' = true) (hl : off + vs.length ≤ xs.length) :
    ∃ w', (storeCells (A0.add off) vs).run P w = .ok () w' ∧ Hb C w' (.row false (.slice (some A0) n0 cc) el s n0 (xs.take off ++ vs ++ xs.drop (off + vs.length)) :: rest) (Inv G φ) := by
  have hown : w.ownsRow 0 el s (.slice (some A0) n0 cc) n0 xs := hb.hp.hold _ List.mem_cons_self
  rcases hown.2 with ⟨hv, _⟩ | ⟨g, cap, cur, hv, _, hg, hnc, hcm, hcs, htk⟩
  · cases hv
  · injection hv with e1 e2 e3
    injection e1 with e1
    subst e1 e3
    have hadd : (⟨g, 0, none⟩ : Addr).add off = ⟨g, off, none⟩ := by unfold Addr.add; split <;> simp_all
    have hxl : xs.length ≤ cur.toList.length := by rw [← htk, List.length_take]; omega
    have hst := run_storeCells_at P g off el vs 0 cur w hg (by simp at hxl; omega) h1
    simp only [Nat.add_zero] at hst
    rw [hadd]
    refine ⟨_, hst, ?_⟩
    have hnew : (w.setRow g (cur.toList.take off ++ vs ++ cur.toList.drop (off + vs.length)).toArray).heap[g]? = some (.cells (cur.toList.take off ++ vs ++ cur.toList.drop (off + vs.length)).toArray el (0, 0)) := setRow_heap w g cur _ el _ hg
    have hoth : ∀ k, k ≠ g → (w.setRow g (cur.toList.take off ++ vs ++ cur.toList.drop (off + vs.length)).toArray).heap[k]? = w.heap[k]? := fun k hk => setRow_other w g k _ hk
    have hlen : (xs.take off ++ vs ++ xs.drop (off + vs.length)).length = xs.length := by
      simp only [List.length_append, List.length_take, List.length_drop]; omega
    refine hb.turn (c' := .row false (.slice (some ⟨g, 0, none⟩) n0 cc) el s n0 (xs.take off ++ vs ++ xs.drop (off + vs.length))) ⟨rfl, rfl, rfl, by simp, fun k _ _ hf => hoth k fun e => hf (.row false (.slice (some ⟨g, 0, none⟩) n0 cc) el s n0 xs) (by simp) (by rw [e]; rfl), fun _ _ _ h _ => (by cases h), fun d hd k hk2 _ => ?_⟩ ⟨by rw [hlen]; exact hown.1, .inr ⟨g, cc, _, rfl, Nat.zero_le _, hnew, hnc, hcm, ?_, ?_⟩⟩ (fun g' hg' => .inl ⟨hg', Nat.le_refl _⟩)
    · have : d = .row false (.slice (some ⟨g, 0, none⟩) n0 cc) el s n0 xs := by simpa using hd
      subst this
      exact Same.zero
    · simp only [List.size_toArray, List.length_append, List.length_take, List.length_drop, Array.length_toList]
      simp only [Array.length_toList] at hxl
      omega
    · have hcur : cur.toList = xs ++ cur.toList.drop (n0 * s) := by
        conv => lhs; rw [← List.take_append_drop (n0 * s) cur.toList]
        rw [htk]
      generalize cur.toList.drop (n0 * s) = rr at hcur
      show List.take (n0 * s) (List.take off cur.toList ++ vs ++ List.drop (off + vs.length) cur.toList) = _
      have q1 : List.take off (xs ++ rr) = List.take off xs := List.take_append_of_le_length (by omega)
      have q2 : List.drop (off + vs.length) (xs ++ rr) = List.drop (off + vs.length) xs ++ rr := List.drop_append_of_le_length (by omega)
      rw [hcur, q1, q2, ← List.append_assoc]
      exact List.take_left' (by rw [hlen]; exact hown.1)

theorem storeT_ok (hc : CtxOk P G c) {tid : Nat} {x z : Operand} (h : storeT c tid S z k (S.get x) = some r) : ∃ S', k S' = some r ∧ ∀ a w, At N C G S a w → OpWp P N C G ⟨none, .store tid x z, ty, pos, af, gd⟩ S' a w := by
  generalize hx : S.get x = dx at h
  unfold storeT at h
  split at h
  case h_3 => cases h
  case h_1 j p off =>
    split at h
    case h_5 => cases h
    case h_1 j' p' o' i hz hi =>
      split at h
      case h_2 => cases h
      case h_1 y S1 hta =>
      split at h
      case isFalse => cases h
      case isTrue he =>
      obtain ⟨S', h1, h2, h3⟩ := setK_ok h
      refine ⟨S', h2, fun a w ⟨W, e, eh, oh, hs, hf, hb⟩ => ?_⟩
      obtain ⟨v, h0, oh1, b1, b2, b3, b4, b5, _⟩ := takeA_ok hta hs
      obtain ⟨v', hh, rr, q1, q2, _⟩ := raw_ok hs.env (x := z) (by rw [hz]; intro e; cases e)
      rw [hz] at q2
      obtain ⟨q2, _⟩ := q2
      have hv : v' = v := Option.some.inj (q2.symm.trans b1)
      subst hv
      have hsz := (hc.ty _ _ hi).sz
      rw [← he, Ty.er_size] at hsz
      have hvc : v'.cells = [v'].toArray := by
        obtain ⟨A, n0, c0, rfl⟩ := b5
        rfl
      exact store_core h1 b3 hf h3 (get_ref hs.env hx) q1 hvc b2 hsz (((Sub.app (Sub.refl eh) b4).trans (Sub.perm (List.perm_append_comm_assoc _ _ _))).hb hb)
    case h_2 i hz hi =>
      split at h
      case h_2 => cases h
      case h_1 t y0 hat =>
      split at h
      case isFalse => cases h
      case isTrue he =>
      split at h
      case h_2 => cases h
      case h_1 y hy =>
      obtain ⟨S', h1, h2, _⟩ := setK_ok h
      refine ⟨S', h2, fun a w ⟨W, e, eh, oh, hs, hf, hb⟩ => ?_⟩
      obtain ⟨h0, r1, r2, r3, r4⟩ := nilAt_ok (φ := W.φ) hy
      obtain ⟨v, hh, rr, q1, q2, _⟩ := raw_ok hs.env (x := z) (by rw [hz]; intro e; cases e)
      rw [hz] at q2
      obtain ⟨rfl, _⟩ := q2
      obtain ⟨_, ob, tb, g1, g2⟩ := atC_ok hat
      refine store_core h1 hs hf ⟨ob, tb, g1, g2⟩ (get_ref hs.env hx) q1 rfl r1 ?_ ((Sub.app r2 (Sub.refl _)).hb (by simpa using hb))
      have hsz := (hc.ty _ _ hi).sz
      rw [← he, ← r3, Ty.er_size] at hsz
      exact hsz
    case h_3 t y i hz hi =>
      split at h
      case isFalse => cases h
      case isTrue he =>
      obtain ⟨S', h1, h2, h3⟩ := setK_ok h
      refine ⟨S', h2, fun a w ⟨W, e, eh, oh, hs, hf, hb⟩ => ?_⟩
      obtain ⟨v, hh, eh', q1, ⟨cs, g1, rfl, g3⟩, q3, q4⟩ := strip_ok hs hz (by intro e; cases e)
      have hsz := (hc.ty _ _ hi).sz
      rw [← he, Ty.er_size] at hsz
      exact store_core h1 q3 hf h3 (get_ref hs.env hx) q1 (sv_one g1 g3) g3 hsz (((Sub.app q4 (Sub.refl oh)).trans (by rw [List.append_assoc]; exact Sub.refl _)).hb hb)
    case h_4 d i hi hn1 hn2 hn3 =>
      split at h
      case h_2 => cases h
      case h_1 y hy =>
      obtain ⟨S', h1, h2, h3⟩ := setK_ok h
      refine ⟨S', h2, fun a w ⟨W, e, eh, oh, hs, hf, hb⟩ => ?_⟩
      obtain ⟨cs, v, q1, q2, q3, _⟩ := asTy_raw hs.env (x := z) rfl hy (hc.ty _ _ hi).frz
      exact store_core h1 hs hf h3 (get_ref hs.env hx) q1 q2 q3 (hc.ty _ _ hi).sz (by simpa using hb)
  case h_2 j p off n sz q qo =>
    split at h
    case h_2 => cases h
    case h_1 ob i hob hi =>
    split at h
    case h_2 => cases h
    case h_1 el t l y hat hy =>
    cases hbb : (Nat.beq t.size sz && Nat.beq (offP t q) qo) with
    | false => rw [hbb] at h; cases h
    | true =>
      rw [hbb] at h
      simp only [cond_true] at h
      simp only [Bool.and_eq_true] at hbb
      have hsz := Nat.eq_of_beq_eq_true hbb.1
      have hqo := Nat.eq_of_beq_eq_true hbb.2
      obtain ⟨x0, hx0, h⟩ := Option.bind_eq_some_iff.1 h
      split at h
      case h_2 => cases h
      case h_1 t' e' hst =>
      split at h
      case isFalse => cases h
      case isTrue htt =>
      subst htt
      split at h
      case h_2 => cases h
      case h_1 z0 hset =>
      refine ⟨_, h, fun a w ⟨W, e, eh, oh, hs, hf, hb⟩ => ?_⟩
      obtain ⟨ob2, a1, a2, a3⟩ := at_ok hat
      have he2 : ob2 = ob := Option.some.inj (a1.symm.trans hob)
      subst he2
      obtain ⟨h0, rr, ⟨hc0, b1, b2⟩, b3, b4, _⟩ := hs.obs.set hs.nd hob
      obtain ⟨pre, mid, post, h1, h2, h3, s0, g0, g1, g2, g3, g4, g5, g6, g7, g8⟩ := setP_ok hset b1
      have hs0 : s0 = ⟨.mr el t', l⟩ := Option.some.inj (g0.symm.trans a3)
      subst hs0
      obtain ⟨A, cc, css, m1, m2, m3, m4, m5⟩ := g5
      have m1 : mid = [.slice A (List.length l) cc] := m1
      subst m1
      have hcell : (W.hd j)[off]? = some (.slice A (List.length l) cc) := by rw [g2, ← a2, ← g3]; simp
      obtain ⟨v, h', hx1, A0, mm, cc0, k1, rfl, _⟩ := get_ok hs.env hx (by intro e; cases e)
      rw [hcell] at k1
      simp only [Option.some.injEq, Value.slice.injEq] at k1
      obtain ⟨rfl, _, _⟩ := k1
      obtain ⟨ce, c1, c2⟩ := m3.get hx0
      obtain ⟨vs, v1, v2⟩ := asTy_get hs.env hy (hc.ty _ _ hi).frz
      obtain ⟨pre2, mid2, post2, y1, y2, y3, s1, f0, f1, f2, f3, f4, f5, f6, f7, f8⟩ := setP_ok hst c2
      have hyn : y1 = [] ∧ y2 = [] ∧ y3 = [] := by
        have : y1 ++ y2 ++ y3 = [] := f4.symm
        simpa [and_assoc] using this
      obtain ⟨rfl, rfl, rfl⟩ := hyn
      have hnew := f8 W.φ vs [] W.φ.le_refl v2
      have hml : vs.length = mid2.length := by rw [v2.len, f5.len, ← Ty.er_size s1.1, ← f1, Ty.er_size]
      have hall : ∀ cx ∈ css, cx.length = t'.size := fun cx hcx => by
        obtain ⟨ix, hix⟩ := List.getElem?_of_mem hcx
        have hlt := (List.getElem?_eq_some_iff.1 hix).1
        rw [← m3.length] at hlt
        obtain ⟨b', hb1, hb2⟩ := m3.get (List.getElem?_eq_getElem hlt)
        rw [hix] at hb1
        injection hb1 with hb1
        subst hb1
        exact hb2.len
      subst f2
      obtain ⟨p1, p2⟩ := flat_put hall c1 hml
      rw [f3, hqo, hsz] at p1 p2
      have b2' : h0 = obBlk W j ob2.tid (W.hd j) ++ (h1 ++ h2 ++ h3) := by rw [b2, g4]; unfold obBlk; cases ob2.tid <;> rfl
      have m5' : h2 = [.row false (.slice (some A0) (List.length l) cc) el t'.size (List.length l) css.flatten] := m5
      have hperm : (eh ++ oh).Perm (.row false (.slice (some A0) (List.length l) cc) el t'.size (List.length l) css.flatten :: (eh ++ (obBlk W j ob2.tid (W.hd j) ++ (h1 ++ [] ++ h3) ++ rr))) := by
        refine (b3.append_left eh).trans ?_
        rw [b2', m5']
        exact (List.Perm.append_left eh (perm3 (B := []))).trans (List.perm_append_comm_assoc _ _ _)
      obtain ⟨w', r1, r2⟩ := row_store (P := P) (hb.perm hperm) v2.one p2
      rw [← p1] at r2
      have hrun : (execOp a.eval ⟨none, .store tid x z, ty, pos, af, gd⟩).run P w = .ok .skip w' := by
        have hlen : vs.length = i.ty.size := v2.len
        have htop : i.ty.top = true := asTy_top hs.env hy (hc.ty _ _ hi).frz
        have hvc := sv_one htop v2
        simp [execOp, hf.ev hx1, hf.ev v1, Instr.storeAt, Instr.sureAddr, storeVar, run_sizeOf' (hc.ty _ _ hi).sz, hvc, hlen, r1]
      have hrow : Rp W.φ (.mr el t') (l.set n e') [.slice (some A0) (List.length l) cc] [.row false (.slice (some A0) (List.length l) cc) el t'.size (List.length l) (css.set n (pre2 ++ vs ++ post2)).flatten] := by
        have hln : (l.set n e').length = List.length l := List.length_set ..
        exact ⟨some A0, cc, css.set n (pre2 ++ vs ++ post2), by rw [hln], by rw [hln]; exact m2, m3.set n hnew, fun _ => rfl, by rw [hln]⟩
      have hz := g8 W.φ _ _ W.φ.le_refl hrow
      have hcs : pre ++ [.slice (some A0) (List.length l) cc] ++ post = W.hd j := g2.symm
      rw [hcs] at hz
      obtain ⟨hs', w1, w2⟩ := b4 W.φ (W.hd j) ⟨ob2.tid, z0.1, z0.2⟩ (obBlk W j ob2.tid (W.hd j) ++ (h1 ++ [.row false (.slice (some A0) (List.length l) cc) el t'.size (List.length l) (css.set n (pre2 ++ vs ++ post2)).flatten] ++ h3)) W.φ.le_refl ⟨_, by rw [upd_same]; exact hz, by rw [upd_same]; unfold obBlk; cases ob2.tid <;> rfl⟩
      rw [upd_same] at w1
      refine .skip hrun ⟨W, e, eh, hs', ⟨hs.env, w1, ?_⟩, hf, (Sub.perm ?_).hb r2⟩
      · rw [putl_keys' _ _ _ (look_mem hob)]
        exact hs.nd
      · refine List.Perm.trans ?_ (w2.append_left eh).symm
        exact ((List.Perm.append_left eh (perm3 (B := []))).trans (List.perm_append_comm_assoc eh [_] _)).symm
end
end Go.Lf
