/-
  Code.
-/
import Derived.Test.YtkfcinmgebhbhaaDoorQSnd17
import Derived.Deep.LoopGhost
namespace Go.Lf
open Go Go.Eng

def Ex.out : Ex → Exit
  | .nrm => .normal
  | .ret => .ret
  | .ext i => .exit i
theorem Ex.eq_ok {x y : Ex} (h : x.eq y = true) : x = y := by
  cases x <;> cases y <;> first | rfl | (cases h; done) | skip
  rw [Nat.eq_of_beq_eq_true (show Nat.beq _ _ = true from h)]

section
variable {P : Program} {N : Nat} {C : Cx} {c : Ctx} {G J : World → Prop}

theorem EntryOk.more {f : Nat} {e : Entry} (h : EntryOk P G f e) : EntryOk P (fun w => G w ∧ J w) f e := by
  refine ⟨h.go, h.top, fun z r hz C φ vals gs hs ha hb => ?_⟩
  have hb1 : Hb C C.w0 (hs ++ []) (Inv (fun w => G w ∧ J w) φ) := by rw [List.append_nil]; exact hb
  have h1 := h.ok z r hz (C.sub C.w0 hs []) φ vals gs hs ha (hb1.pass.imp fun w hw => ⟨hw.1.1, hw.2⟩)
  refine h1.mono fun x w' hx => ?_
  obtain ⟨v, φ', h2, h3, rfl, hle, hb2, hr, ho⟩ := hx
  have hb3 := hb1.back hb2
  rw [List.append_nil] at hb3
  exact ⟨v, φ', h2, h3, rfl, hle, hb3.imp fun w hw => ⟨⟨hw.2.1, hw.1.1.2⟩, hw.2.2⟩, hr, ho⟩
theorem CtxOk.more (h : CtxOk P G c) : CtxOk P (fun w => G w ∧ J w) c := ⟨h.ty, fun f e hf => (h.fn f e hf).more⟩
theorem At.less {S : St} {a : Act} {w : World} (h : At N C (fun w => G w ∧ J w) S a w) : At N C G S a w := by
  obtain ⟨W, e, eh, oh, h1, h2, h3⟩ := h
  exact ⟨W, e, eh, oh, h1, h2, h3.imp fun w hw => ⟨hw.1.1, hw.2⟩⟩

variable (P N C c)
/-- What the interpreter says of a piece of code holds. -/
def Sound (code : Code) (S : St) (R : Type) (k : Ex → St → Option R) (r : R) : Prop :=
  ∀ (G : World → Prop), CtxOk P G c → ∀ (K : Act → Prop), (∀ t ∈ dsts code, ∀ v a, K a → K (a.put (some t) v)) → ∀ Q : Exit → Act → World → Prop,
    (∀ x S', k x S' = some r → ∀ a w, At N C G S' a w → K a → Q x.out a w) → ∀ a w, At N C G S a w → K a → code.wp P Q a w
variable {P N C c}

theorem dec_ok {dead : List Nat} {S S' : St} {R : Type} {k : Ex → St → Option R} {r : R} : ∀ {w : Ways} {x : Ex} {z : w.T}, w.enc x S' = some z → w.dec dead S k z = some r → ∃ (s : Shape) (z' : prodT s.tys), s.get S' = some z' ∧ k x (s.mk' dead S z') = some r
  | .one y s, x, z, he, hd => by
    unfold Ways.enc at he
    cases hb : y.eq x with
    | false => rw [hb] at he; cases he
    | true =>
      rw [hb] at he
      have := Ex.eq_ok hb
      subst this
      exact ⟨s, z, he, hd⟩
  | .more y s w, x, z, he, hd => by
    replace he : (bif y.eq x then (match s.get S' with | some z => (some (.inl z) : Option (prodT s.tys ⊕ w.T)) | none => none) else (match w.enc x S' with | some z => some (.inr z) | none => none)) = some z := he
    cases hb : y.eq x with
    | false =>
      rw [hb, cond_false] at he
      cases hz : w.enc x S' with
      | none => rw [hz] at he; cases he
      | some z' =>
        rw [hz] at he
        injection he with he
        subst he
        exact dec_ok hz hd
    | true =>
      rw [hb, cond_true] at he
      have := Ex.eq_ok hb
      subst this
      cases hz : s.get S' with
      | none => rw [hz] at he; cases he
      | some z' =>
        rw [hz] at he
        injection he with he
        subst he
        exact ⟨s, z', hz, hd⟩

theorem put_other {a : Act} {t s : Nat} {v : Value} (h : s ≠ t) : (a.put (some t) v).tmps[s]? = a.tmps[s]? := by
  simp only [Act.put]
  exact Array.getElem?_setIfInBounds_ne (Ne.symm h)

theorem wrap_ok {code : Code} {S : St} {R : Type} {k : Ex → St → Option R} {r : R} {an : Ann} {base : (R : Type) → Ann → (Ex → St → Option R) → Option R}
    (hbase : ∀ (R : Type) (an : Ann) (k : Ex → St → Option R) (r : R), base R an k = some r → Sound P N C c code S R k r) (h : wrap (dsts code) S an base k = some r) : Sound P N C c code S R k r := by
  cases an with
  | join w an =>
    intro G hc K hK Q hQ a wd hat ha
    obtain ⟨z, hz, hd⟩ := Option.bind_eq_some_iff.1 h
    obtain ⟨W0, e0, eh0, oh0, hs0, hf0, hb0⟩ := id hat
    refine hbase _ an _ _ hz (fun w => G w ∧ Agree W0.φ w) hc.more (fun a' => K a' ∧ ∀ t, t ∉ dsts code → a'.tmps[t]? = a.tmps[t]?) (fun t ht v a' h' => ⟨hK t ht v a' h'.1, fun s hs => ?_⟩) Q (fun x S' hx a' w' hat' ha' => ?_) a wd ?_ ⟨ha, fun _ _ => rfl⟩
    · rw [put_other fun e => (by subst e; exact hs ht)]; exact h'.2 s hs
    · obtain ⟨s, z', q1, q2⟩ := dec_ok hx hd
      exact hQ x _ q2 a' w' (mk_ok (fun w hw => hw.2) hs0.env hf0 ha'.2 q1 hat').less ha'.1
    · exact ⟨W0, e0, eh0, oh0, hs0, hf0, hb0.imp fun w hw => ⟨⟨hw.1, hw.2⟩, hw.2⟩⟩
  | _ => exact hbase _ _ _ _ h

theorem iter_loop {σ κ : Type} {B : σ → Option (σ ⊕ κ)} {z : σ} {q : κ} (h : loopC B z = some q) : ∃ n, iter B n z = some q := by
  unfold loopC at h
  split at h
  · rename_i hex
    simp only [Option.some.injEq] at h
    subst h
    exact Classical.choose_spec hex
  · cases h

theorem seq_sound {a b : Code} {S : St} {R : Type} {k : Ex → St → Option R} {r : R} {f : St → Option R} (ha : Sound P N C c a S R (seqK f k) r) (hb : ∀ S', f S' = some r → Sound P N C c b S' R k r) : Sound P N C c (.seq a b) S R k r := by
  intro G hc K hK Q hQ x w hat hx
  refine wp_seq (ha G hc K (fun t ht => hK t (List.mem_append_left _ ht)) _ (fun y S' hy a' w' hat' ha' => ?_) x w hat hx)
  cases y with
  | nrm => exact hb S' hy G hc K (fun t ht => hK t (List.mem_append_right _ ht)) Q hQ a' w' hat' ha'
  | ret => exact hQ .ret S' hy a' w' hat' ha'
  | ext i => exact hQ (.ext i) S' hy a' w' hat' ha'

theorem codeE_ok (hm : P.follows .mixedOrders = true) (hn : c.n = N) : ∀ (code : Code) (an : Ann) (R : Type) (S : St) (k : Ex → St → Option R) (r : R), codeE c code an R S k = some r → Sound P N C c code S R k r
  | .skip, an, R, S, k, r, h => fun G hc K hK Q hQ a w hat ha => wp_skip (hQ .nrm S (by unfold codeE at h; exact h) a w hat ha)
  | .exit i, an, R, S, k, r, h => fun G hc K hK Q hQ a w hat ha => wp_exit (hQ (.ext i) S (by unfold codeE at h; exact h) a w hat ha)
  | .ret, an, R, S, k, r, h => fun G hc K hK Q hQ a w hat ha => wp_ret (hQ .ret S (by unfold codeE at h; exact h) a w hat ha)
  | .label _, an, R, S, k, r, h => fun G hc K hK Q hQ a w hat ha => wp_label (hQ .nrm S (by unfold codeE at h; exact h) a w hat ha)
  | .region i ops dr, an, R, S, k, r, h => by
    unfold codeE at h
    refine wrap_ok (fun R an k r h => ?_) h
    intro G hc K hK Q hQ a w hat ha
    refine regE_ok hm hc hn h (K := K) (fun o ho v a ha => ?_) (fun S' hS a' w' hat' ha' => hQ .nrm S' hS a' w' hat' ha') hat ha
    cases hd : o.dst with
    | none => exact ha
    | some d => exact hK d (List.mem_filterMap.2 ⟨o, ho, hd⟩) v a ha
  | .seq a b, an, R, S, k, r, h => by
    unfold codeE at h
    exact wrap_ok (fun R an k r h => seq_sound (codeE_ok hm hn a _ _ _ _ _ h) fun S' hS => codeE_ok hm hn b _ _ _ _ _ hS) h
  | .cond x a b, an, R, S, k, r, h => by
    unfold codeE at h
    refine wrap_ok (fun R an k r h => ?_) h
    unfold condE at h
    split at h
    case h_2 => cases h
    case h_1 bb hx =>
    intro G hc K hK Q hQ ac w hat ha
    obtain ⟨W, e, eh, oh, q1, q2, q3⟩ := id hat
    have hev := q2.ev (get_bool q1.env hx)
    cases hb : (bb : Bool) with
    | true =>
      rw [hb] at h hev
      exact wp_cond_true hev (codeE_ok hm hn a _ _ _ _ _ h G hc K (fun t ht => hK t (List.mem_append_left _ ht)) Q hQ ac w hat ha)
    | false =>
      rw [hb] at h hev
      exact wp_cond_false hev (codeE_ok hm hn b _ _ _ _ _ h G hc K (fun t ht => hK t (List.mem_append_right _ ht)) Q hQ ac w hat ha)
  | .block i a, an, R, S, k, r, h => by
    unfold codeE at h
    refine wrap_ok (fun R an k r h => ?_) h
    intro G hc K hK Q hQ ac w hat ha
    refine wp_block (codeE_ok hm hn a _ _ _ _ _ h G hc K hK _ (fun x S' hx a' w' hat' ha' => ?_) ac w hat ha)
    cases x with
    | nrm => exact hQ .nrm S' hx a' w' hat' ha'
    | ret => exact hQ .ret S' hx a' w' hat' ha'
    | ext j =>
      unfold blkK at hx
      simp only at hx
      show (if j = i then Q .normal a' w' else Q (.exit j) a' w')
      cases hb : Nat.beq j i with
      | true =>
        rw [hb] at hx
        rw [if_pos (Nat.eq_of_beq_eq_true hb)]
        exact hQ .nrm S' hx a' w' hat' ha'
      | false =>
        rw [hb] at hx
        rw [if_neg fun e => by rw [e, Nat.beq_refl] at hb; cases hb]
        exact hQ (.ext j) S' hx a' w' hat' ha'
  | .scope a, an, R, S, k, r, h => by
    unfold codeE at h
    refine wrap_ok (fun R an k r h => ?_) h
    intro G hc K hK Q hQ ac w hat ha
    refine wp_scope_straight (codeE_ok hm hn a _ _ _ _ _ h G hc K hK _ (fun x S' hx a' w' hat' ha' => ?_) ac w hat ha)
    cases x with
    | nrm => exact hQ .nrm S' hx a' w' hat' ha'
    | ret => exact hQ .ret S' hx a' w' hat' ha'
    | ext j => exact hQ (.ext j) S' hx a' w' hat' ha'
  | .loop a, an, R, S, k, r, h => by
    cases an <;> first | (unfold codeE at h; cases h; done) | skip
    rename_i s w an
    unfold codeE at h
    split at h
    case h_1 => cases h
    case h_2 z0 hz0 =>
    obtain ⟨q, hq, hd⟩ := Option.bind_eq_some_iff.1 h
    obtain ⟨n, hn0⟩ := iter_loop hq
    intro G hc K hK Q hQ ac wd hat ha
    obtain ⟨W0, e0, eh0, oh0, hs0, hf0, hb0⟩ := id hat
    have hat0 : At N C (fun w => G w ∧ Agree W0.φ w) S ac wd := ⟨W0, e0, eh0, oh0, hs0, hf0, hb0.imp fun w hw => ⟨⟨hw.1, hw.2⟩, hw.2⟩⟩
    have mk : ∀ {S' : St} {z : prodT s.tys} {a' : Act} {w' : World}, s.get S' = some z → (∀ t, t ∉ dsts (.loop a) → a'.tmps[t]? = ac.tmps[t]?) → At N C (fun w => G w ∧ Agree W0.φ w) S' a' w' → At N C (fun w => G w ∧ Agree W0.φ w) (s.mk' (dsts (.loop a)) S z) a' w' :=
      fun hg hk h => mk_ok (fun w hw => hw.2) hs0.env hf0 hk hg h
    refine wp_loop_ghost (fun n a' w' => ∃ z', iter (fun z : prodT s.tys => codeE c a an (prodT s.tys ⊕ w.T) (s.mk' (dsts (.loop a)) S z) (loopK s w)) n z' = some q ∧ At N C (fun w => G w ∧ Agree W0.φ w) (s.mk' (dsts (.loop a)) S z') a' w' ∧ (K a' ∧ ∀ t, t ∉ dsts (.loop a) → a'.tmps[t]? = ac.tmps[t]?)) n
      ⟨z0, hn0, mk hz0 (fun _ _ => rfl) hat0, ha, fun _ _ => rfl⟩ fun n a1 w1 ⟨z', hit, hat1, hk1⟩ => ?_
    cases n with
    | zero => cases hit
    | succ m =>
      unfold iter at hit
      obtain ⟨rr, hB, hit⟩ := Option.bind_eq_some_iff.1 hit
      refine codeE_ok hm hn a an _ _ _ rr hB (fun w => G w ∧ Agree W0.φ w) hc.more (fun a' => K a' ∧ ∀ t, t ∉ dsts (.loop a) → a'.tmps[t]? = ac.tmps[t]?) (fun t ht v a' h' => ⟨hK t ht v a' h'.1, fun u hu => ?_⟩) _ (fun x S' hx a' w' hat' ha' => ?_) a1 w1 hat1 hk1
      · rw [put_other fun e => (by subst e; exact hu ht)]; exact h'.2 u hu
      · have done : x ≠ .nrm → (∃ q', w.enc x S' = some q' ∧ rr = .inr q') → Q x.out a' w' := fun hne ⟨q', h1, h2⟩ => by
          subst h2
          simp only [Option.some.injEq] at hit
          subst hit
          obtain ⟨s2, z2, g1, g2⟩ := dec_ok h1 hd
          exact hQ x _ g2 a' w' (mk_ok (fun w hw => hw.2) hs0.env hf0 ha'.2 g1 hat').less ha'.1
        cases x with
        | nrm =>
          unfold loopK at hx
          simp only at hx
          split at hx
          · rename_i z2 hz2
            simp only [Option.some.injEq] at hx
            subst hx
            exact ⟨m, Nat.lt_succ_self m, z2, hit, mk hz2 ha'.2 hat', ha'⟩
          · cases hx
        | ret =>
          unfold loopK at hx
          simp only at hx
          split at hx
          · rename_i z2 hz2
            simp only [Option.some.injEq] at hx
            exact done (fun e => by cases e) ⟨z2, hz2, hx.symm⟩
          · cases hx
        | ext i =>
          unfold loopK at hx
          simp only at hx
          split at hx
          · rename_i z2 hz2
            simp only [Option.some.injEq] at hx
            exact done (fun e => by cases e) ⟨z2, hz2, hx.symm⟩
          · cases hx
  | .goto _, an, R, S, k, r, h => by cases h
termination_by structural code => code
end
end Go.Lf
