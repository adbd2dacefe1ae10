/- Chapter 1, plainly: the errors of a list. -/
import Derived.Test.YtlidfdmdmiidfaaQAE
namespace Go.Fn
open Go Go.Lf Go.Eng Go.Proofs
def firstV : List Vw → Vw
  | [] => .nil
  | v :: _ => v
def joinV (ks : List Vw) : Vw := match ks.filter fun v => !v.isNil with
  | [] => .nil
  | l => .join l
def mkV (n : NodeD) (ks : List Vw) : Vw :=
  if n.1 = 0 then (if nCode n = 0 then .nil else .new (nCode n) (nSrc n) (nLine n) (nCol n) (nWord n))
  else if n.1 = 1 then (bif (firstV ks).isNil then .nil else .und (nLayer n) (nWhat n) (firstV ks))
  else if n.1 = 2 then (bif (firstV ks).isNil then .nil else .inn (nWhat n) (firstV ks))
  else if n.1 = 3 then joinV ks
  else if n.1 = 4 then .plain (nLayer n)
  else if n.1 = 5 then .wrap (nLayer n) (firstV ks)
  else if n.1 = 6 then .many (nLayer n) ks
  else .nil
def kidV (vs : List Vw) (n : NodeD) : List Vw := (nKids n).map fun k => vs.getD k.toNat .nil
def Vs (L : List NodeD) : List Vw := L.foldl (fun vs n => vs ++ [mkV n (kidV vs n)]) []
theorem Vs_snoc (L : List NodeD) (n : NodeD) : Vs (L ++ [n]) = Vs L ++ [mkV n (kidV (Vs L) n)] := by unfold Vs; rw [List.foldl_append]; rfl
theorem Vs_take (L : List NodeD) {i : Nat} {n : NodeD} (h : L[i]? = some n) : Vs (L.take (i + 1)) = Vs (L.take i) ++ [mkV n (kidV (Vs (L.take i)) n)] := by
  rw [List.take_add_one, h]
  exact Vs_snoc _ _
theorem Vs_len (L : List NodeD) : ∀ i, i ≤ L.length → (Vs (L.take i)).length = i
  | 0, _ => by simp [Vs]
  | i + 1, h => by
    rw [Vs_take L (List.getElem?_eq_getElem (by omega : i < L.length)), List.length_append, Vs_len L i (by omega)]
    rfl
theorem Vs_pre (L : List NodeD) {i : Nat} : ∀ m, i + m ≤ L.length → (Vs (L.take (i + m))).take i = Vs (L.take i)
  | 0, h => by
    have := Vs_len L i h
    rw [Nat.add_zero]
    exact List.take_of_length_le (by omega)
  | m + 1, h => by
    rw [show i + (m + 1) = i + m + 1 by omega, Vs_take L (List.getElem?_eq_getElem (by omega : i + m < L.length)), List.take_append_of_le_length (by rw [Vs_len L _ (by omega)]; omega)]
    exact Vs_pre L m (by omega)
theorem Vs_full (L : List NodeD) : Vs (L.take L.length) = Vs L := by rw [List.take_length]
theorem Vs_length (L : List NodeD) : (Vs L).length = L.length := by have := Vs_len L L.length (Nat.le_refl _); rwa [Vs_full] at this
theorem Vs_getD (L : List NodeD) {i j : Nat} (hi : i ≤ L.length) (hj : j < i) : (Vs (L.take i)).getD j .nil = (Vs L).getD j .nil := by
  have h := Vs_pre L (i := i) (L.length - i) (by omega)
  rw [show i + (L.length - i) = L.length by omega, Vs_full] at h
  rw [← h]
  simp [List.getD_eq_getElem?_getD, List.getElem?_take, hj]
/-- the view of a node's error -/
theorem Vs_get (L : List NodeD) {i : Nat} {n : NodeD} (h : L[i]? = some n) (hk : ∀ k ∈ nKids n, 0 ≤ k ∧ k < i) : (Vs L)[i]? = some (mkV n (kidV (Vs L) n)) := by
  have hlt := (List.getElem?_eq_some_iff.1 h).1
  have e1 : kidV (Vs (L.take i)) n = kidV (Vs L) n := List.map_congr_left fun k hk' => Vs_getD L (by omega) (by have := hk k hk'; omega)
  have e2 := Vs_take L h
  have e3 := Vs_pre L (i := i + 1) (L.length - (i + 1)) (by omega)
  rw [show i + 1 + (L.length - (i + 1)) = L.length by omega, Vs_full, e2] at e3
  have e4 := congrArg (fun l => l[i]?) e3
  simp only [List.getElem?_take, Nat.lt_succ_self, if_true] at e4
  rw [e4, List.getElem?_append_right (by rw [Vs_len L i (by omega)]; omega), Vs_len L i (by omega), e1]
  simp
theorem enc_first (ks : List Vw) : foliolaw01_first (encs ks) = some (enc (firstV ks)) := by
  cases ks with
  | nil => rfl
  | cons v r =>
    unfold foliolaw01_first
    have : decide ((((List.length (encs (v :: r)) : Nat) : Int) : Int) = (0 : Int)) = false := decide_eq_false (by simp [encs]; omega)
    simp only [this, cond_false]
    rfl
theorem under_ok (v : Vw) (la : List UInt8) (wh : Int) : fault_Under (enc v) la wh = some (enc (bif v.isNil then .nil else .und la wh v)) := by
  unfold fault_Under
  rw [enc_nil]
  cases v.isNil <;> rfl
theorem in_ok (v : Vw) (s : Int) : fault_In (enc v) s = some (enc (bif v.isNil then .nil else .inn s v)) := by
  unfold fault_In
  rw [enc_nil]
  cases v.isNil <;> rfl
theorem new_ok (c s l o : Int) (w : List UInt8) : fault_New c s l o w = some (enc (if c = 0 then .nil else .new c s l o w)) := by
  unfold fault_New
  by_cases h : c = 0
  · simp only [h, decide_true, cond_true, if_true]; rfl
  · simp only [h, decide_false, cond_false, if_false]; rfl
theorem encs_app (l m : List Vw) : encs (l ++ m) = encs l ++ encs m := by simp [encs_map]
theorem encs_len (l : List Vw) : (encs l).length = l.length := by simp [encs_map]
theorem encs_get (l : List Vw) (i : Nat) : (encs l)[i]? = l[i]?.map enc := by rw [encs_map, List.getElem?_map]
theorem join_ok (ks : List Vw) (hl : ks.length ≤ 1048576) : fault_Join (encs ks) = some (enc (joinV ks)) := by
  unfold fault_Join
  refine OkP.eq ?_
  refine OkP.bind (Q := fun r => r = encs (ks.filter fun v => !v.isNil)) ?_ fun r hr => ?_
  · refine OkP.range (encs ks) (fun i s => s = encs ((ks.take i).filter fun v => !v.isNil)) (fun i x s hx hs => ?_) (fun s hs => ?_) rfl
    · subst hs
      rw [encs_get] at hx
      obtain ⟨v, hv, rfl⟩ := Option.map_eq_some_iff.1 hx
      have hlt := (List.getElem?_eq_some_iff.1 hv).1
      have hlen : (encs ks).length = ks.length := encs_len ks
      have hg : (encs ks)[i]? = some (enc v) := by rw [encs_get, hv]; rfl
      have hb : decide ((i : Int) < ((encs ks).length : Int)) = true := by simp [hlen]; omega
      have hf : ((ks.take i).filter fun v => !v.isNil).length ≤ i := Nat.le_trans (List.length_filter_le _ _) (by rw [List.length_take]; omega)
      have ht : ks.take (i + 1) = ks.take i ++ [v] := by rw [List.take_add_one, hv]; rfl
      simp only [hb, cond_true, idx_nat, hg, Option.bind_some, enc_nil]
      cases hn : v.isNil with
      | true =>
        simp only [Bool.not_true, cond_false, Option.bind_some]
        refine OkP.of rfl ⟨wrapS (by omega), ?_⟩
        rw [ht, List.filter_append]
        simp [hn]
      | false =>
        simp only [Bool.not_false, cond_true, Option.bind_some]
        rw [app_of (by rw [encs_len]; simp; omega)]
        simp only [Option.bind_some]
        refine OkP.of rfl ⟨wrapS (by omega), ?_⟩
        rw [ht, List.filter_append, encs_app]
        simp [hn, encs]
    · subst hs
      simp only [Int.lt_irrefl, decide_false, cond_false]
      refine OkP.of rfl ?_
      rw [encs_len, List.take_length]
  · subst hr
    unfold joinV
    cases hk : ks.filter fun v => !v.isNil with
    | nil => exact OkP.of rfl rfl
    | cons v r =>
      have : decide ((((List.length (encs (v :: r)) : Nat) : Int) : Int) = (0 : Int)) = false := decide_eq_false (by simp [encs]; omega)
      simp only [this, cond_false]
      exact OkP.of rfl rfl
theorem within_ok (vs : List Vw) (i : Nat) (ks : List Int) (hl : ks.length ≤ 1048576) (hv : vs.length = i) (hk : ∀ k ∈ ks, 0 ≤ k ∧ k < i) : foliolaw01_within (encs vs) (i : Int) ks = some (encs (ks.map fun k => vs.getD k.toNat .nil)) := by
  unfold foliolaw01_within
  refine OkP.eq ?_
  refine OkP.bind (Q := fun r => r = encs (ks.map fun k => vs.getD k.toNat .nil)) ?_ fun r hr => OkP.of rfl hr
  refine OkP.range ks (fun j s => s = encs ((ks.take j).map fun k => vs.getD k.toNat .nil)) (fun j k s hj hs => ?_) (fun s hs => ?_) rfl
  · subst hs
    have hlt := (List.getElem?_eq_some_iff.1 hj).1
    have hkk := hk k (List.mem_of_getElem? hj)
    have hb : decide ((j : Int) < (ks.length : Int)) = true := by simp; omega
    have h1 : decide ((0 : Int) ≤ k) = true := by simp [hkk.1]
    have h2 : decide (k < (i : Int)) = true := by simp [hkk.2]
    have hlv : k.toNat < vs.length := by omega
    have h3 : idx (encs vs) k = some (enc (vs.getD k.toNat .nil)) := by
      have e : (k.toNat : Int) = k := by omega
      rw [← e, idx_nat, encs_get, List.getElem?_eq_getElem (by omega), List.getD_eq_getElem?_getD, List.getElem?_eq_getElem (by omega)]
      rfl
    simp only [hb, cond_true, idx_nat, hj, Option.bind_some, h1, h2, h3]
    rw [app_of (by rw [encs_len, List.length_map, List.length_take]; simp; omega)]
    refine OkP.of rfl ⟨wrapS (by omega), ?_⟩
    rw [List.take_add_one, hj, List.map_append, encs_app]
    rfl
  · subst hs
    simp only [Int.lt_irrefl, decide_false, cond_false]
    refine OkP.of rfl ?_
    rw [List.take_length]
theorem made_ok (L : List NodeD) (hlen : L.length ≤ 200) {tx : Nat → Int} (hF : ∀ i, i < L.length → Fit1 L tx i) : foliolaw01_made L = some (encs (Vs L)) := by
  unfold foliolaw01_made
  refine OkP.eq ?_
  refine OkP.bind (Q := fun r => r = encs (Vs L)) ?_ fun r hr => OkP.of rfl hr
  refine OkP.range L (fun i s => s = encs (Vs (L.take i))) (fun i n s hn hs => ?_) (fun s hs => ?_) rfl
  · subst hs
    have hlt := (List.getElem?_eq_some_iff.1 hn).1
    have hf := hF i hlt
    have hkid := hf.kid n hn
    have hnum := hf.num n hn
    have hb : decide ((i : Int) < (L.length : Int)) = true := by simp; omega
    have hvl := Vs_len L i (by omega)
    have hw := within_ok (Vs (L.take i)) i (nKids n) (by omega) hvl hkid
    have hkl : ((nKids n).map fun k => (Vs (L.take i)).getD k.toNat .nil).length ≤ 1048576 := by rw [List.length_map]; omega
    simp only [hb, cond_true, idx_nat, hn, Option.bind_some, hw, enc_first, under_ok, in_ok, new_ok, join_ok _ hkl]
    have fin : ∀ e : Er, e = enc (mkV n (kidV (Vs (L.take i)) n)) → OkP False ((app 16 (encs (Vs (L.take i))) (e :: [])).bind fun r12 => some (Sum.inl ((IntKind.wrap .i64 ((i : Int) + (1 : Int)), r12) : Int × List Er) : Sum (Int × List Er) (List Er))) (fun d => match d with | .inl z => z.1 = ((i + 1 : Nat) : Int) ∧ z.2 = encs (Vs (L.take (i + 1))) | .inr k => k = encs (Vs L)) := fun e he => by
      rw [app_of (by rw [encs_len, hvl]; simp; omega)]
      refine OkP.of rfl ⟨wrapS (by omega), ?_⟩
      rw [Vs_take L hn, encs_app, he]
      rfl
    unfold mkV at fin
    by_cases h0 : n.1 = 0
    · simp only [h0, if_true, decide_true, cond_true, Option.bind_some] at fin ⊢
      exact (fin _ rfl).imp id fun d hd => by cases d <;> exact hd
    by_cases h1 : n.1 = 1
    · simp only [h1, if_true, decide_true, cond_true, Option.bind_some, show ((1 : Int) = 0) = False from by simp, decide_false, cond_false, if_false] at fin ⊢
      exact (fin _ rfl).imp id fun d hd => by cases d <;> exact hd
    by_cases h2 : n.1 = 2
    · simp only [h2, if_true, decide_true, cond_true, Option.bind_some, show ((2 : Int) = 0) = False from by simp, show ((2 : Int) = 1) = False from by simp, decide_false, cond_false, if_false] at fin ⊢
      exact (fin _ rfl).imp id fun d hd => by cases d <;> exact hd
    by_cases h3 : n.1 = 3
    · simp only [h3, if_true, decide_true, cond_true, Option.bind_some, show ((3 : Int) = 0) = False from by simp, show ((3 : Int) = 1) = False from by simp, show ((3 : Int) = 2) = False from by simp, decide_false, cond_false, if_false] at fin ⊢
      exact (fin _ rfl).imp id fun d hd => by cases d <;> exact hd
    simp only [h0, h1, h2, h3, if_false, decide_false, cond_false] at fin ⊢
    by_cases h4 : n.1 = 4
    · simp only [h4, if_true, decide_true, cond_true, Option.bind_some] at fin ⊢
      exact (fin _ rfl).imp id fun d hd => by cases d <;> exact hd
    by_cases h5 : n.1 = 5
    · simp only [h5, if_true, decide_true, cond_true, Option.bind_some, show ((5 : Int) = 4) = False from by simp, decide_false, cond_false, if_false] at fin ⊢
      exact (fin _ rfl).imp id fun d hd => by cases d <;> exact hd
    by_cases h6 : n.1 = 6
    · simp only [h6, if_true, decide_true, cond_true, Option.bind_some, show ((6 : Int) = 4) = False from by simp, show ((6 : Int) = 5) = False from by simp, decide_false, cond_false, if_false] at fin ⊢
      exact (fin _ rfl).imp id fun d hd => by cases d <;> exact hd
    simp only [h4, h5, h6, if_false, decide_false, cond_false, Option.bind_some] at fin ⊢
    exact (fin _ rfl).imp id fun d hd => by cases d <;> exact hd
  · subst hs
    simp only [Int.lt_irrefl, decide_false, cond_false]
    refine OkP.of rfl ?_
    rw [List.take_length]
end Go.Fn
/- Chapter 1, plainly: all faults of an error; wrapped ones. -/
namespace Go.Fn
open Go Go.Lf Go.Eng Go.Proofs
mutual
theorem Deep.mono : ∀ (v : Vw) {d d' n n' : Nat}, d ≤ d' → n ≤ n' → Deep d n v → Deep d' n' v
  | .nil, _, _, _, _, _, _, _ => trivial
  | .new .., _, _, _, _, _, hn, h => by have h : 1 ≤ _ := h; show 1 ≤ _; omega
  | .und _ _ k, _, _, _, _, hd, hn, h => ⟨by have := h.1; omega, Deep.mono k (by omega) hn h.2⟩
  | .inn _ k, _, _, _, _, hd, hn, h => ⟨by have := h.1; omega, Deep.mono k (by omega) hn h.2⟩
  | .join ks, _, _, _, _, hd, hn, h => ⟨by have := h.1; omega, h.2.1, Deeps.mono ks (by omega) hn h.2.2⟩
  | .plain _, _, _, _, _, _, _, _ => trivial
  | .wrap _ k, _, _, _, _, hd, hn, h => ⟨by have := h.1; omega, Deep.mono k (by omega) hn h.2⟩
  | .many _ ks, _, _, _, _, hd, hn, h => ⟨by have := h.1; omega, h.2.1, Deeps.mono ks (by omega) hn h.2.2⟩
theorem Deeps.mono : ∀ (l : List Vw) {d d' n n' : Nat}, d ≤ d' → n ≤ n' → Deeps d n l → Deeps d' n' l
  | [], _, _, _, _, _, _, _ => trivial
  | v :: r, _, _, _, _, hd, hn, h => by
    obtain ⟨a, h1, h2, h3⟩ := h
    exact ⟨a, by omega, Deep.mono v hd (Nat.le_refl _) h2, Deeps.mono r hd (by omega) h3⟩
end
theorem deeps_filter {d : Nat} : ∀ (l : List Vw) (n : Nat), Deeps d n l → Deeps d n (l.filter fun v => !v.isNil)
  | [], _, _ => trivial
  | v :: r, n, h => by
    obtain ⟨a, h1, h2, h3⟩ := h
    have h4 := deeps_filter r _ h3
    cases hn : v.isNil with
    | true => rw [List.filter_cons_of_neg (by simp [hn])]; exact Deeps.mono _ (Nat.le_refl _) (by omega) h4
    | false => rw [List.filter_cons_of_pos (by simp [hn])]; exact ⟨a, h1, h2, h4⟩
theorem deep_join {d n : Nat} {ks : List Vw} (hl : ks.length ≤ 1048576) (h : Deeps d n ks) : Deep (d + 1) n (joinV ks) := by
  unfold joinV
  have h1 := deeps_filter ks n h
  have h2 := List.length_filter_le (fun v : Vw => !v.isNil) ks
  split
  · exact trivial
  · exact ⟨by omega, by omega, h1⟩
theorem deeps_all {d a : Nat} : ∀ (l : List Vw) (n : Nat), (∀ v ∈ l, Deep d a v) → l.length * a ≤ n → Deeps d n l
  | [], _, _, _ => trivial
  | v :: r, n, h, hn => by
    rw [List.length_cons, Nat.add_mul, Nat.one_mul] at hn
    exact ⟨a, by omega, h v List.mem_cons_self, deeps_all r _ (fun v hv => h v (List.mem_cons_of_mem _ hv)) (by omega)⟩
theorem deeps_kids {L : List NodeD} {tx : Nat → Int} {d : Nat} : ∀ (ks : List Int) (n : Nat), (∀ k ∈ ks, 0 ≤ tx k.toNat ∧ Deep d (tx k.toNat).toNat ((Vs L).getD k.toNat .nil)) → sumK tx ks ≤ n → Deeps d n (ks.map fun k => (Vs L).getD k.toNat .nil)
  | [], _, _, _ => trivial
  | k :: r, n, h, hb => by
    have h1 := h k List.mem_cons_self
    have hr := fun k hk => h k (List.mem_cons_of_mem _ hk)
    have hp : 0 ≤ sumK tx r := by
      clear hb h h1
      induction r with
      | nil => simp [sumK]
      | cons a r ih =>
        have h2 := ih fun k hk => hr k (List.mem_cons_of_mem _ hk)
        have h3 := (hr a List.mem_cons_self).1
        simp only [sumK, List.map_cons, List.sum_cons] at h2 ⊢
        omega
    have e : sumK tx (k :: r) = tx k.toNat + 2 + sumK tx r := by simp [sumK]
    rw [e] at hb
    exact ⟨(tx k.toNat).toNat, by omega, h1.2, deeps_kids r _ hr (by omega)⟩
theorem deepV {L : List NodeD} {tx : Nat → Int} (hL : ∀ i, i < L.length → Fit1 L tx i) : ∀ (i : Nat), i < L.length → Deep (i + 1) (tx i).toNat ((Vs L).getD i .nil) := by
  intro i
  induction i using Nat.strongRecOn with
  | ind i ih =>
  intro hi
  obtain ⟨n, hn⟩ : ∃ n, L[i]? = some n := ⟨L[i], List.getElem?_eq_getElem hi⟩
  have hF := hL i hi
  have hkid := hF.kid n hn
  have ht := hF.text n hn
  have hle := hF.le
  have hnum := hF.num n hn
  have hk : ∀ k ∈ nKids n, 0 ≤ tx k.toNat ∧ Deep i (tx k.toNat).toNat ((Vs L).getD k.toNat .nil) := fun k hk => by
    have h1 := hkid k hk
    exact ⟨(hL k.toNat (by omega)).le.1, Deep.mono _ (by omega) (Nat.le_refl _) (ih k.toNat (by omega) (by omega))⟩
  have hds : Deeps i (tx i).toNat (kidV (Vs L) n) := deeps_kids (nKids n) _ hk (by omega)
  have hkl : (kidV (Vs L) n).length ≤ 1048576 := by unfold kidV; rw [List.length_map]; omega
  have e : (Vs L).getD i .nil = mkV n (kidV (Vs L) n) := by
    rw [List.getD_eq_getElem?_getD, Vs_get L hn hkid]
    rfl
  rw [e]
  have hfirst : Deep i (tx i).toNat (firstV (kidV (Vs L) n)) := by
    revert hds
    generalize kidV (Vs L) n = ks
    intro hds
    cases ks with
    | nil => exact trivial
    | cons v r =>
      obtain ⟨a, h1, h2, _⟩ := hds
      exact Deep.mono _ (Nat.le_refl _) h1 h2
  have hpos : 1 ≤ (tx i).toNat := by
    have hp : 0 ≤ sumK tx (nKids n) := by
      have : ∀ l : List Int, (∀ k ∈ l, 0 ≤ tx k.toNat) → 0 ≤ sumK tx l := fun l => by
        induction l with
        | nil => intro _; simp [sumK]
        | cons a r ih2 =>
          intro h
          have h2 := ih2 fun k hk => h k (List.mem_cons_of_mem _ hk)
          have h3 := h a List.mem_cons_self
          simp only [sumK, List.map_cons, List.sum_cons] at h2 ⊢
          omega
      exact this _ fun k h => (hk k h).1
    omega
  unfold mkV
  split
  · split
    · exact trivial
    · exact hpos
  split
  · cases (firstV (kidV (Vs L) n)).isNil with
    | true => exact trivial
    | false => exact ⟨by omega, hfirst⟩
  split
  · cases (firstV (kidV (Vs L) n)).isNil with
    | true => exact trivial
    | false => exact ⟨by omega, hfirst⟩
  split
  · exact deep_join hkl hds
  split
  · exact trivial
  split
  · exact ⟨by omega, hfirst⟩
  split
  · exact ⟨by omega, hkl, hds⟩
  · exact trivial
/-- the trail of one without faults -/
def bareV : Vw → List StepD
  | .und la wh k => (la, (wh, ())) :: bareV k
  | .inn _ k => bareV k
  | _ => []
def allV (v : Vw) : List FaultD := bif v.isNil then [] else match gathV v way0 with
  | [] => [(10, (0, (0, (0, ([], (bareV v, ()))))))]
  | l => l
end Go.Fn
/- Chapter 1, plainly: all faults; faults alike; wrapped ones. -/
namespace Go.Fn
open Go Go.Lf Go.Eng Go.Proofs
theorem bare_ok {v : Vw} {d n : Nat} (hd : Deep d n v) (h : d ≤ 1000000) : fault_bare (enc v) = some (bareV v) := by
  unfold fault_bare
  refine OkP.eq ?_
  refine OkP.bind (Q := fun r => r = bareV v) ?_ fun r hr => OkP.of rfl hr
  refine OkP.loop (fun m z => ∃ v' n', Deep m n' v' ∧ z.2 = enc v' ∧ z.1 ++ bareV v' = bareV v ∧ z.1.length + m ≤ 1000000) (fun m z hz => ?_) d ([], enc v) ⟨v, n, hd, rfl, rfl, by simpa using h⟩
  obtain ⟨v', n', h1, h2, h3, h4⟩ := hz
  obtain ⟨z1, z2⟩ := z
  simp only at h2 h3 h4
  subst h2
  have stop : bareV v' = [] → z1 = bareV v := fun h => by rw [h, List.append_nil] at h3; exact h3
  cases v' with
  | und la wh k =>
    obtain ⟨g1, g2⟩ := h1
    change OkP False ((app 24 z1 [(la, (wh, ()))]).bind fun r4 => some (Sum.inl (r4, enc k))) _
    rw [app_of (by simp; omega)]
    refine OkP.some ⟨m - 1, by omega, k, n', g2, rfl, ?_, by simp; omega⟩
    rw [← h3]
    simp [bareV]
  | inn s k =>
    obtain ⟨g1, g2⟩ := h1
    change OkP False (some (Sum.inl (z1, enc k))) _
    exact OkP.some ⟨m - 1, by omega, k, n', g2, rfl, h3, by show z1.length + (m - 1) ≤ _; omega⟩
  | nil => change OkP False (some (Sum.inr z1)) _; exact OkP.some (stop rfl)
  | new => change OkP False (some (Sum.inr z1)) _; exact OkP.some (stop rfl)
  | join => change OkP False (some (Sum.inr z1)) _; exact OkP.some (stop rfl)
  | plain => change OkP False (some (Sum.inr z1)) _; exact OkP.some (stop rfl)
  | wrap => change OkP False (some (Sum.inr z1)) _; exact OkP.some (stop rfl)
  | many => change OkP False (some (Sum.inr z1)) _; exact OkP.some (stop rfl)
theorem all_ok {v : Vw} {d n : Nat} (hd : Deep d n v) (h1 : d ≤ 1000000) (h2 : n ≤ 1000000000) : fault_All (enc v) = some (allV v) := by
  unfold fault_All allV
  rw [enc_nil]
  cases v.isNil with
  | true => rfl
  | false =>
    simp only [cond_false]
    rw [show fault_gather (enc v) ((0 : Int), ((0 : Int), (([] : List StepD), ()))) [] = some (gathV v way0) from gather_ok hd h1 h2]
    simp only [Option.bind_some]
    cases gathV v way0 with
    | nil =>
      simp only [List.length_nil, show decide ((0 : Int) < ((0 : Nat) : Int)) = false from rfl, cond_false, bare_ok hd h1, Option.bind_some]
    | cons a r =>
      have : decide ((0 : Int) < (((a :: r).length : Nat) : Int)) = true := decide_eq_true (by simp)
      rw [this]
      rfl
theorem step_refl (s : List UInt8) : decide ((s : List UInt8) ≠ s) = false := decide_eq_false (by simp)
theorem int_refl (x : Int) : decide ((x : Int) ≠ x) = false := decide_eq_false (by simp)
theorem same_refl (f : FaultD) (h : f.2.2.2.2.2.1.length ≤ 1000000000) : folioref01_Same f f = some true := by
  unfold folioref01_Same
  simp only [step_refl, int_refl, Bool.not_false, cond_true, Option.bind_some, cond_false]
  refine OkP.eq ?_
  refine OkP.bind (Q := fun r => match r with | .inl _ => True | .inr _ => False) ?_ fun r hr => ?_
  · refine OkP.range (α := StepD) f.2.2.2.2.2.1 (fun _ s => s = (f, f)) (fun j x s hx hs => ?_) (fun s hs => ?_) rfl
    · subst hs
      have hlt := (List.getElem?_eq_some_iff.1 hx).1
      have hb : decide ((j : Int) < ((List.length f.2.2.2.2.2.1 : Nat) : Int)) = true := by simp; omega
      simp only [hb, cond_true, idx_nat, hx, Option.bind_some, step_refl, int_refl, Bool.not_false, cond_false]
      exact OkP.of rfl ⟨wrapS (by omega), rfl⟩
    · subst hs
      simp only [Int.lt_irrefl, decide_false, cond_false]
      exact OkP.of rfl trivial
  · cases r with
    | inl _ => exact OkP.of rfl rfl
    | inr _ => exact hr.elim
theorem sameAll_refl (l : List FaultD) (hl : l.length ≤ 1000000000) (h : ∀ f ∈ l, f.2.2.2.2.2.1.length ≤ 1000000000) : folioref01_SameAll l l = some true := by
  unfold folioref01_SameAll
  simp only [int_refl, cond_false]
  refine OkP.eq ?_
  refine OkP.bind (Q := fun r => match r with | .inl _ => True | .inr _ => False) ?_ fun r hr => ?_
  · refine OkP.loop (fun m z => ∃ i : Nat, i + m = l.length ∧ z = (i : Int)) (fun m z hz => ?_) l.length 0 ⟨0, by omega, rfl⟩
    obtain ⟨i, hi, rfl⟩ := hz
    by_cases hlt : i < l.length
    · have hg : l[i]? = some l[i] := List.getElem?_eq_getElem hlt
      have hb : decide ((i : Int) < ((List.length l : Nat) : Int)) = true := by simp; omega
      simp only [hb, cond_true, idx_nat, hg, Option.bind_some, same_refl _ (h _ (List.getElem_mem hlt)), Bool.not_true, cond_false]
      exact OkP.of rfl ⟨m - 1, by omega, i + 1, by omega, wrapS (by omega)⟩
    · have hb : decide ((i : Int) < ((List.length l : Nat) : Int)) = false := by simp; omega
      simp only [hb, cond_false]
      exact OkP.of rfl trivial
  · cases r with
    | inl _ => exact OkP.of rfl rfl
    | inr _ => exact hr.elim
/-- two faults that differ in their trail's beginning, or their source, alone -/
structure FR (src : Prop) (p : List StepD) (a b : FaultD) : Prop where
  code : b.1 = a.1
  line : b.2.2.1 = a.2.2.1
  col : b.2.2.2.1 = a.2.2.2.1
  word : b.2.2.2.2.1 = a.2.2.2.2.1
  trail : b.2.2.2.2.2.1 = p ++ a.2.2.2.2.2.1
  source : src → b.2.1 = a.2.1
mutual
theorem gath_rel {src : Prop} {p : List StepD} : ∀ (v : Vw) (w w' : WayD), w'.2.2.1 = p ++ w.2.2.1 → (src → w'.1 = w.1 ∧ w'.2.1 = w.2.1) → All2 (FR src p) (gathV v w) (gathV v w')
  | .nil, _, _, _, _ => .nil
  | .new c s l o wd, w, w', h1, h2 => .cons ⟨rfl, rfl, rfl, rfl, h1, fun h => by obtain ⟨a, b⟩ := h2 h; simp only [mkF]; rw [a, b]⟩ .nil
  | .und la wh k, w, w', h1, h2 => gath_rel k _ _ (by show w'.2.2.1 ++ _ = _; rw [h1, List.append_assoc]) h2
  | .inn s k, w, w', h1, h2 => by
    simp only [gathV]
    refine gath_rel k _ _ ?_ ?_
    · split <;> split <;> exact h1
    · intro h
      obtain ⟨a, b⟩ := h2 h
      rw [a]
      split
      · exact ⟨rfl, rfl⟩
      · exact ⟨a, b⟩
  | .join ks, w, w', h1, h2 => gath_rels ks w w' h1 h2
  | .plain _, _, _, _, _ => .nil
  | .wrap _ k, w, w', h1, h2 => gath_rel k w w' h1 h2
  | .many _ ks, w, w', h1, h2 => gath_rels ks w w' h1 h2
theorem gath_rels {src : Prop} {p : List StepD} : ∀ (l : List Vw) (w w' : WayD), w'.2.2.1 = p ++ w.2.2.1 → (src → w'.1 = w.1 ∧ w'.2.1 = w.2.1) → All2 (FR src p) (gathVs l w) (gathVs l w')
  | [], _, _, _, _ => .nil
  | v :: r, w, w', h1, h2 => (gath_rel v w w' h1 h2).append (gath_rels r w w' h1 h2)
end
theorem all_und {v : Vw} (hn : v.isNil = false) (la : List UInt8) (wh : Int) : All2 (FR True [(la, (wh, ()))]) (allV v) (allV (.und la wh v)) := by
  have h := gath_rel (src := True) (p := [(la, (wh, ()))]) v way0 (0, (0, ([(la, (wh, ()))], ()))) rfl fun _ => ⟨rfl, rfl⟩
  have e : gathV (.und la wh v) way0 = gathV v (0, (0, ([(la, (wh, ()))], ()))) := rfl
  unfold allV
  rw [hn, e]
  revert h
  generalize gathV v (0, (0, ([(la, (wh, ()))], ()))) = g'
  generalize gathV v way0 = g
  intro h
  cases h with
  | nil => exact .cons ⟨rfl, rfl, rfl, rfl, rfl, fun _ => rfl⟩ .nil
  | cons a b => exact .cons a b
theorem all_inn {v : Vw} (hn : v.isNil = false) (so : Int) : All2 (FR False []) (allV v) (allV (.inn so v)) := by
  have h := gath_rel (src := False) (p := []) v way0 (1, (so, ([], ()))) rfl fun h => h.elim
  have e : gathV (.inn so v) way0 = gathV v (1, (so, ([], ()))) := rfl
  unfold allV
  rw [hn, e]
  revert h
  generalize gathV v (1, (so, ([], ()))) = g'
  generalize gathV v way0 = g
  intro h
  cases h with
  | nil => exact .cons ⟨rfl, rfl, rfl, rfl, rfl, fun h => h.elim⟩ .nil
  | cons a b => exact .cons a b
theorem bare_same {src : Prop} {p : List StepD} {a b : FaultD} (h : FR src p a b) : ∃ f : FaultD, foliolaw01_bare a = some f ∧ foliolaw01_bare b = some f ∧ folioref01_Same f f = some true := by
  refine ⟨(a.1, (0, (a.2.2.1, (a.2.2.2.1, (a.2.2.2.2.1, ([], ())))))), rfl, ?_, same_refl _ (by simp)⟩
  show some ((b.1, (0, (b.2.2.1, (b.2.2.2.1, (b.2.2.2.2.1, ([], ())))))) : FaultD) = _
  rw [h.code, h.line, h.col, h.word]
mutual
theorem gath_trail : ∀ (v : Vw) (d n : Nat) (w : WayD), Deep d n v → ∀ f ∈ gathV v w, f.2.2.2.2.2.1.length ≤ w.2.2.1.length + d
  | .nil, _, _, _, _ => fun f hf => by cases hf
  | .new c s l o wd, d, n, w, _ => fun f hf => by
    have : f = mkF w c s l o wd := by simpa [gathV] using hf
    subst this
    exact Nat.le_add_right _ _
  | .und la wh k, d, n, w, h => fun f hf => by
    have h1 := gath_trail k (d - 1) n _ h.2 f hf
    have h2 := h.1
    simp only [List.length_append, List.length_cons, List.length_nil] at h1
    omega
  | .inn s k, d, n, w, h => fun f hf => by
    have h1 := gath_trail k (d - 1) n _ h.2 f hf
    have h2 := h.1
    have h3 : (if w.1 = 0 then ((1, (s, w.2.2)) : WayD) else w).2.2.1.length = w.2.2.1.length := by split <;> rfl
    omega
  | .join ks, d, n, w, h => fun f hf => by
    have h1 := gaths_trail ks (d - 1) n w h.2.2 f hf
    omega
  | .plain _, _, _, _, _ => fun f hf => by cases hf
  | .wrap _ k, d, n, w, h => fun f hf => by
    have h1 := gath_trail k (d - 1) n w h.2 f hf
    omega
  | .many _ ks, d, n, w, h => fun f hf => by
    have h1 := gaths_trail ks (d - 1) n w h.2.2 f hf
    omega
theorem gaths_trail : ∀ (l : List Vw) (d n : Nat) (w : WayD), Deeps d n l → ∀ f ∈ gathVs l w, f.2.2.2.2.2.1.length ≤ w.2.2.1.length + d
  | [], _, _, _, _ => fun f hf => by cases hf
  | v :: r, d, n, w, h => fun f hf => by
    obtain ⟨a, h1, h2, h3⟩ := h
    rcases List.mem_append.1 hf with hf | hf
    · exact gath_trail v d a w h2 f hf
    · exact gaths_trail r d _ w h3 f hf
end
/-- those with a code of their own -/
def flt (l : List FaultD) : List FaultD := l.filter fun f => decide (f.1 ≠ 10)
theorem flt_app (a b : List FaultD) : flt (a ++ b) = flt a ++ flt b := List.filter_append ..
theorem flt_all (v : Vw) : flt (allV v) = flt (gathV v way0) := by
  unfold allV
  cases hn : v.isNil with
  | true => cases v <;> first | rfl | cases hn
  | false =>
    simp only [cond_false]
    cases gathV v way0 <;> rfl
theorem gathVs_filter (w : WayD) : ∀ l : List Vw, gathVs (l.filter fun v => !v.isNil) w = gathVs l w
  | [] => rfl
  | v :: r => by
    cases hn : v.isNil with
    | true =>
      rw [List.filter_cons_of_neg (by simp [hn]), gathVs_filter w r]
      have : gathV v w = [] := by cases v <;> first | rfl | cases hn
      simp [gathVs, this]
    | false =>
      rw [List.filter_cons_of_pos (by simp [hn])]
      simp only [gathVs, gathVs_filter w r]
theorem gath_join (w : WayD) (l : List Vw) : gathV (joinV l) w = gathVs l w := by
  rw [← gathVs_filter]
  unfold joinV
  split
  · rename_i h
    rw [h]
    rfl
  · rfl
/-- so far -/
def JJ (L : List NodeD) (i : Nat) : List FaultD := flt (gathVs ((Vs L).take i) way0)
theorem JJ_succ {L : List NodeD} {i : Nat} {v : Vw} (h : (Vs L)[i]? = some v) : JJ L (i + 1) = JJ L i ++ flt (allV v) := by
  unfold JJ
  rw [gathVs_take way0 _ i v h, flt_app, flt_all]
theorem JJ_join (L : List NodeD) (i : Nat) : flt (allV (joinV ((Vs L).take i))) = JJ L i := by
  rw [flt_all, gath_join]
  rfl
end Go.Fn
/- Chapter 1, plainly: the document's answers: which errors are nil, what is within. -/
namespace Go.Lf
open Go
theorem OkP.range2 {α σ κ : Type} {may : Prop} {B : σ × Int → Option ((σ × Int) ⊕ κ)} {Q : κ → Prop} (l : List α) (I : Nat → σ → Prop) (hstep : ∀ (i : Nat) x s, l[i]? = Option.some x → I i s → OkP may (B (s, (i : Int))) fun d => match d with | .inl z => z.2 = ((i + 1 : Nat) : Int) ∧ I (i + 1) z.1 | .inr k => Q k)
    (hend : ∀ s, I l.length s → OkP may (B (s, (l.length : Int))) fun d => match d with | .inl _ => False | .inr k => Q k) {s : σ} (h0 : I 0 s) : OkP may (loopC B (s, (0 : Int))) Q := by
  refine OkP.loop (fun n z => ∃ i : Nat, i + n = l.length ∧ z.2 = (i : Int) ∧ I i z.1) (fun n z hz => ?_) l.length (s, 0) ⟨0, by omega, rfl, h0⟩
  obtain ⟨i, hi, hz1, hz2⟩ := hz
  obtain ⟨z1, z2⟩ := z
  simp only at hz1 hz2
  subst hz1
  by_cases hlt : i < l.length
  · refine (hstep i l[i] z1 (List.getElem?_eq_getElem hlt) hz2).imp id fun d hd => ?_
    cases d with
    | inl z => exact ⟨n - 1, by omega, i + 1, by omega, hd.1, hd.2⟩
    | inr k => exact hd
  · have : i = l.length := by omega
    subst this
    refine (hend z1 hz2).imp id fun d hd => ?_
    cases d with
    | inl z => exact hd.elim
    | inr k => exact hd
end Go.Lf
namespace Go.Fn
open Go Go.Lf Go.Eng Go.Proofs
/-- a list that may be gone through -/
structure FitL (L : List NodeD) (tx : Nat → Int) : Prop where
  len : L.length ≤ 200
  one : ∀ i, i < L.length → Fit1 L tx i
def vAt (L : List NodeD) (k : Int) : Vw := (Vs L).getD k.toNat .nil
theorem vAt_get {L : List NodeD} {tx : Nat → Int} (hL : FitL L tx) {i : Nat} {n : NodeD} (h : L[i]? = some n) : vAt L (i : Int) = mkV n (kidV (Vs L) n) := by
  have hlt := (List.getElem?_eq_some_iff.1 h).1
  have h1 := Vs_get L h ((hL.one i hlt).kid n h)
  show (Vs L).getD i .nil = _
  rw [List.getD_eq_getElem?_getD, h1]
  rfl
def oneB (n : NodeD) : Bool := decide (n.1 = 1) || (decide (n.1 = 2) || decide (n.1 = 5))
def noneB (n : NodeD) : Bool := decide (n.1 = 0) || (decide (n.1 = 4) || decide (n.1 = 7))
def kidI (L : List NodeD) (n : NodeD) : List Int := bif noneB n then [] else bif oneB n then (match nKids n with | [] => [] | k :: _ => bif (vAt L k).isNil then [] else [k]) else (nKids n).filter fun k => !(vAt L k).isNil
theorem bind_some_id {α : Type} (x : Option α) : (x.bind fun r => some r) = x := by cases x <;> rfl
theorem kids_none (self : List NodeD × Int → Option Bool) {L : List NodeD} {i : Nat} {n : NodeD} (hn : L[i]? = some n) (h : noneB n = true) : folioref01_kidsP self L (i : Int) = some [] := by
  unfold folioref01_kidsP
  simp only [idx_nat, hn, Option.bind_some]
  unfold noneB at h
  by_cases h0 : n.1 = 0
  · simp only [h0, decide_true, Bool.not_true, cond_false, cond_true, Option.bind_some]
  by_cases h4 : n.1 = 4
  · simp only [h4, decide_true, Bool.not_true, cond_false, cond_true, Option.bind_some, show decide ((4 : Int) = 0) = false from rfl, Bool.not_false]
  have h7 : n.1 = 7 := by simpa [h0, h4] using h
  simp only [h7, decide_true, cond_true, Option.bind_some, show decide ((7 : Int) = 0) = false from rfl, show decide ((7 : Int) = 4) = false from rfl, Bool.not_false]
theorem kids_some (self : List NodeD × Int → Option Bool) {L : List NodeD} {i : Nat} {n : NodeD} (hn : L[i]? = some n) (h : noneB n = false) :
    folioref01_kidsP self L (i : Int) = (Go.Lf.loopC (σ := (List (Int)) × (Int)) (κ := List (Int)) (fun z10 =>
     bif (decide (z10.2 < (((List.length (nKids n)) : Nat) : Int))) then (((Go.Lf.idx (nKids n) z10.2)).bind fun r11 =>
       (bif oneB n then some ((decide ((0 : Int) < (((List.length z10.1) : Nat) : Int))), z10.1)
         else some (false, z10.1)).bind fun r12 =>
       bif r12.1 then some (.inl r12.2)
       else (bif (decide ((0 : Int) ≤ r11)) then bif (decide (r11 < (i : Int))) then ((self (L, r11))).bind fun r13 =>
         some ((!r13), r12.2)
         else some (false, r12.2)
         else some (false, r12.2)).bind fun r14 =>
       bif r14.1 then ((Go.Lf.app (8 : Nat) r14.2 (r11 :: ([] : List (Int))))).bind fun r15 =>
       some (.inr r15)
       else bif oneB n then some (.inl r14.2)
       else some (.inr r14.2) : Option ((List (Int)) ⊕ (List (Int)))).bind fun r16 =>
     Go.Lf.onSum r16 (fun a17 =>
     some (.inr a17)) (fun b18 =>
     some (.inl (b18, (Go.IntKind.wrap .i64 (z10.2 + (1 : Int))))))
     else some (.inr z10.1)) ([], (0 : Int)) : Option (List (Int))) := by
  unfold noneB at h
  simp only [Bool.or_eq_false_iff, decide_eq_false_iff_not] at h
  obtain ⟨h0, h4, h7⟩ := h
  unfold folioref01_kidsP
  simp only [idx_nat, hn, Option.bind_some, h0, h4, h7, decide_false, Bool.not_false, cond_true, cond_false]
  have hone : (bif (!(decide ((n.1 : Int) = (1 : Int)))) then bif (!(decide ((n.1 : Int) = (2 : Int)))) then some (([] : List Int), (decide ((n.1 : Int) = (5 : Int)))) else some ([], true) else some ([], true)) = some ([], oneB n) := by
    unfold oneB
    by_cases h1 : n.1 = 1 <;> by_cases h2 : n.1 = 2 <;> simp [h1, h2]
  rw [hone]
  simp only [Option.bind_some]
  exact bind_some_id _
theorem kids_ok {L : List NodeD} {tx : Nat → Int} (hL : FitL L tx) {may : Prop} (self : List NodeD × Int → Option Bool) {i : Nat} {n : NodeD} (hn : L[i]? = some n) (hs : ∀ k : Int, 0 ≤ k → k < i → OkP may (self (L, k)) (· = (vAt L k).isNil)) :
    OkP may (folioref01_kidsP self L (i : Int)) (· = kidI L n) := by
  have hlt := (List.getElem?_eq_some_iff.1 hn).1
  have hkid := (hL.one i hlt).kid n hn
  have hnum := (hL.one i hlt).num n hn
  unfold kidI
  cases h0 : noneB n with
  | true => exact OkP.of (kids_none self hn h0) rfl
  | false =>
  rw [kids_some self hn h0, cond_false]
  cases h1 : oneB n with
  | true =>
    simp only [cond_true]
    cases hk : nKids n with
    | nil =>
      rw [loopC_step]
      exact OkP.of rfl rfl
    | cons k r =>
      have hkk := hkid k (by rw [hk]; exact List.mem_cons_self)
      have e0 : decide ((0 : Int) ≤ k) = true := by simp [hkk.1]
      have e1 : decide (k < (i : Int)) = true := by simp [hkk.2]
      have hb : decide ((0 : Int) < ((List.length (k :: r) : Nat) : Int)) = true := by simp
      rw [loopC_step]
      have hz : idx (k :: r) (0 : Int) = some k := rfl
      simp only [hb, cond_true, hz, Option.bind_some, List.length_nil, show decide ((0 : Int) < ((0 : Nat) : Int)) = false from rfl, cond_false, e0, e1]
      refine OkP.bind (OkP.bind (Q := fun x => x = bif (vAt L k).isNil then (Sum.inl [] : Sum (List Int) (List Int)) else .inr [k]) (OkP.bind (OkP.bind (hs k hkk.1 hkk.2) fun b hb => OkP.of (Q := fun x : Bool × List Int => x = (!(vAt L k).isNil, [])) rfl (by rw [hb])) fun x hx => ?_) fun x hx => ?_) fun x hx => hx
      · subst hx
        cases (vAt L k).isNil with
        | true => exact OkP.of rfl rfl
        | false =>
          simp only [Bool.not_false, cond_true]
          rw [app_of (by simp)]
          exact OkP.of rfl rfl
      · subst hx
        cases (vAt L k).isNil with
        | true => exact OkP.of rfl (OkP.of rfl rfl)
        | false =>
          refine OkP.of rfl ?_
          have e3 : IntKind.wrap .i64 ((0 : Int) + (1 : Int)) = 1 := wrap64 (by omega) (by omega)
          show OkP may (loopC _ ([k], IntKind.wrap .i64 ((0 : Int) + (1 : Int)))) _
          rw [e3, loopC_step]
          cases r with
          | nil => exact OkP.of rfl rfl
          | cons k2 r2 =>
            have hb2 : decide ((1 : Int) < ((List.length (k :: k2 :: r2) : Nat) : Int)) = true := by simp; omega
            have hz2 : idx (k :: k2 :: r2) (1 : Int) = some k2 := rfl
            simp only [hb2, cond_true, hz2, Option.bind_some, List.length_cons, List.length_nil, show decide ((0 : Int) < ((0 + 1 : Nat) : Int)) = true from rfl, onSum]
            generalize decide ((1 : Int) < _) = bb
            cases bb <;> exact OkP.of rfl rfl
  | false =>
    simp only [cond_false]
    refine OkP.range2 (nKids n) (fun j s => s = ((nKids n).take j).filter fun k => !(vAt L k).isNil) (fun j k s hj hI => ?_) (fun s hI => ?_) rfl
    · subst hI
      have hkk := hkid k (List.mem_of_getElem? hj)
      have hjl := (List.getElem?_eq_some_iff.1 hj).1
      have e0 : decide ((0 : Int) ≤ k) = true := by simp [hkk.1]
      have e1 : decide (k < (i : Int)) = true := by simp [hkk.2]
      have hb : decide ((j : Int) < ((List.length (nKids n) : Nat) : Int)) = true := by simp; omega
      have hf : (((nKids n).take j).filter fun k => !(vAt L k).isNil).length ≤ j := Nat.le_trans (List.length_filter_le _ _) (by rw [List.length_take]; omega)
      have ht : (nKids n).take (j + 1) = (nKids n).take j ++ [k] := by rw [List.take_add_one, hj]; rfl
      simp only [hb, cond_true, idx_nat, hj, Option.bind_some, cond_false, e0, e1]
      refine OkP.bind (Q := fun x => x = (Sum.inr (((nKids n).take (j + 1)).filter fun k => !(vAt L k).isNil) : Sum (List Int) (List Int))) (OkP.bind (OkP.bind (hs k hkk.1 hkk.2) fun b hb => OkP.of (Q := fun x : Bool × List Int => x = (!(vAt L k).isNil, ((nKids n).take j).filter fun k => !(vAt L k).isNil)) rfl (by rw [hb])) fun x hx => ?_) fun x hx => ?_
      · subst hx
        cases hv : (vAt L k).isNil with
        | true =>
          refine OkP.of rfl ?_
          rw [ht, List.filter_append]
          simp [hv]
        | false =>
          simp only [Bool.not_false, cond_true]
          rw [app_of (by simp; omega)]
          refine OkP.of rfl ?_
          rw [ht, List.filter_append]
          simp [hv]
      · subst hx
        exact OkP.of rfl ⟨wrapS (by omega), rfl⟩
    · subst hI
      simp only [Int.lt_irrefl, decide_false, cond_false]
      refine OkP.of rfl ?_
      rw [List.take_length]
theorem firstV_kid {L : List NodeD} {n : NodeD} : firstV (kidV (Vs L) n) = match nKids n with | [] => .nil | k :: _ => vAt L k := by
  unfold kidV
  cases nKids n <;> rfl
theorem joinV_nil (ks : List Vw) : (joinV ks).isNil = (ks.filter fun v => !v.isNil).isEmpty := by
  unfold joinV
  cases ks.filter fun v => !v.isNil <;> rfl
theorem kidV_filter {L : List NodeD} {n : NodeD} : (kidV (Vs L) n).filter (fun v => !v.isNil) = ((nKids n).filter fun k => !(vAt L k).isNil).map (vAt L) := by
  unfold kidV
  rw [List.filter_map]
  rfl
theorem nilN_ok {L : List NodeD} {tx : Nat → Int} (hL : FitL L tx) : ∀ (m : Nat) (k : Int), 0 ≤ k → k < L.length → OkP (m ≤ k.toNat) (folioref01_NilN m (L, k)) (· = (vAt L k).isNil) := by
  intro m
  induction m with
  | zero => exact fun k h0 h1 => .inr ⟨Nat.zero_le _, rfl⟩
  | succ m ih =>
    intro k h0 h1
    obtain ⟨i, rfl⟩ : ∃ i : Nat, k = (i : Int) := ⟨k.toNat, by omega⟩
    have hi : i < L.length := by omega
    obtain ⟨n, hn⟩ : ∃ n, L[i]? = some n := ⟨L[i], List.getElem?_eq_getElem hi⟩
    have hself : ∀ k : Int, 0 ≤ k → k < i → OkP (m + 1 ≤ i) (folioref01_NilN m (L, k)) (· = (vAt L k).isNil) := fun k h2 h3 => (ih k h2 (by omega)).imp (fun h => by omega) fun _ h => h
    have hkid := (hL.one i hi).kid n hn
    show OkP (m + 1 ≤ i) (folioref01_NilB (folioref01_NilN m) L (i : Int)) _
    unfold folioref01_NilB
    have e0 : decide ((i : Int) < 0) = false := by simp
    have e1 : decide (((List.length L : Nat) : Int) ≤ (i : Int)) = false := by simp; omega
    simp only [e0, e1, Bool.not_false, cond_true, cond_false, Option.bind_some, idx_nat, hn]
    rw [vAt_get hL hn]
    unfold mkV
    by_cases k0 : n.1 = 0
    · simp only [k0, decide_true, cond_true, if_true]
      refine OkP.of rfl ?_
      by_cases hc : nCode n = 0
      · simp only [hc, decide_true, if_true]; rfl
      · simp only [hc, decide_false, if_false]; rfl
    have one : OkP (m + 1 ≤ i) ((bif (!(decide (((((List.length (nKids n)) : Nat) : Int) : Int) = (0 : Int)))) then ((Go.Lf.idx (nKids n) (0 : Int))).bind fun r4 =>
        bif (!(decide ((i : Int) ≤ r4))) then ((Go.Lf.idx (nKids n) (0 : Int))).bind fun r5 =>
        ((folioref01_NilN m (L, r5))).bind fun r6 =>
        some r6
        else some true
        else some true).bind fun r7 => some r7) (· = (firstV (kidV (Vs L) n)).isNil) := by
      rw [firstV_kid]
      cases hk : nKids n with
      | nil => exact OkP.of rfl rfl
      | cons k r =>
        have hkk := hkid k (by rw [hk]; exact List.mem_cons_self)
        have e2 : decide (((((List.length (k :: r)) : Nat) : Int) : Int) = (0 : Int)) = false := decide_eq_false (by simp; omega)
        have e3 : decide ((i : Int) ≤ k) = false := by simp; omega
        have e4 : idx (k :: r) (0 : Int) = some k := rfl
        simp only [e2, e3, e4, Bool.not_false, cond_true, Option.bind_some]
        exact OkP.bind (OkP.bind (hself k hkk.1 hkk.2) fun b hb => OkP.of (Q := fun x => x = (vAt L k).isNil) rfl hb) fun b hb => OkP.of rfl hb
    by_cases k1 : n.1 = 1
    · simp only [k1, decide_true, cond_true, if_true, Option.bind_some, show decide ((1 : Int) = 0) = false from rfl, show ((1 : Int) = 0) = False from by simp, cond_false, if_false]
      refine one.imp id fun b hb => hb.trans ?_
      cases (firstV (kidV (Vs L) n)) <;> rfl
    by_cases k2 : n.1 = 2
    · simp only [k2, decide_true, cond_true, if_true, Option.bind_some, show decide ((2 : Int) = 0) = false from rfl, show decide ((2 : Int) = 1) = false from rfl, show ((2 : Int) = 0) = False from by simp, show ((2 : Int) = 1) = False from by simp, cond_false, if_false]
      refine one.imp id fun b hb => hb.trans ?_
      cases (firstV (kidV (Vs L) n)) <;> rfl
    by_cases k3 : n.1 = 3
    · simp only [k3, decide_true, cond_true, if_true, Option.bind_some, show decide ((3 : Int) = 0) = false from rfl, show decide ((3 : Int) = 1) = false from rfl, show decide ((3 : Int) = 2) = false from rfl, show ((3 : Int) = 0) = False from by simp, show ((3 : Int) = 1) = False from by simp, show ((3 : Int) = 2) = False from by simp, cond_false, if_false]
      refine OkP.bind (kids_ok hL _ hn hself) fun r hr => OkP.of rfl ?_
      subst hr
      rw [joinV_nil, kidV_filter]
      unfold kidI noneB oneB
      simp only [k3, show decide ((3 : Int) = 0) = false from rfl, show decide ((3 : Int) = 1) = false from rfl, show decide ((3 : Int) = 2) = false from rfl, show decide ((3 : Int) = 4) = false from rfl, show decide ((3 : Int) = 5) = false from rfl, show decide ((3 : Int) = 7) = false from rfl, Bool.or_false, cond_false]
      cases (nKids n).filter fun k => !(vAt L k).isNil with
      | nil => rfl
      | cons a b => exact decide_eq_false (by simp; omega)
    by_cases k4 : n.1 = 4
    · simp only [k4, decide_true, cond_true, if_true, Option.bind_some, show decide ((4 : Int) = 0) = false from rfl, show decide ((4 : Int) = 1) = false from rfl, show decide ((4 : Int) = 2) = false from rfl, show decide ((4 : Int) = 3) = false from rfl, show ((4 : Int) = 0) = False from by simp, show ((4 : Int) = 1) = False from by simp, show ((4 : Int) = 2) = False from by simp, show ((4 : Int) = 3) = False from by simp, cond_false, if_false]
      exact OkP.of rfl rfl
    by_cases k5 : n.1 = 5
    · simp only [k5, decide_true, cond_true, if_true, Option.bind_some, show decide ((5 : Int) = 0) = false from rfl, show decide ((5 : Int) = 1) = false from rfl, show decide ((5 : Int) = 2) = false from rfl, show decide ((5 : Int) = 3) = false from rfl, show decide ((5 : Int) = 4) = false from rfl, show ((5 : Int) = 0) = False from by simp, show ((5 : Int) = 1) = False from by simp, show ((5 : Int) = 2) = False from by simp, show ((5 : Int) = 3) = False from by simp, show ((5 : Int) = 4) = False from by simp, cond_false, if_false]
      exact OkP.of rfl rfl
    simp only [k0, k1, k2, k3, k4, k5, decide_false, cond_false, if_false, Option.bind_some]
    by_cases k6 : n.1 = 6
    · simp only [k6, decide_true, cond_true, if_true]
      exact OkP.of rfl rfl
    · simp only [k6, decide_false, cond_false, if_false]
      exact OkP.of rfl rfl
theorem nil_ok {L : List NodeD} {tx : Nat → Int} (hL : FitL L tx) {k : Int} (h0 : 0 ≤ k) (h1 : k < L.length) : folioref01_Nil L k = some (vAt L k).isNil := supC_ok k.toNat fun m => nilN_ok hL m k h0 h1
theorem kidsR_ok {L : List NodeD} {tx : Nat → Int} (hL : FitL L tx) {i : Nat} {n : NodeD} (hn : L[i]? = some n) : folioref01_kids L (i : Int) = some (kidI L n) := by
  have hlt := (List.getElem?_eq_some_iff.1 hn).1
  exact (kids_ok (may := False) hL _ hn fun k h0 h1 => OkP.of (nil_ok hL h0 (by omega)) rfl).eq
end Go.Fn
/- From what a row says of its arguments. -/
namespace Go.Fn
open Go Go.Lf Go.Eng Go.Proofs
abbrev NodeT : Ty := .st (.pr (.int .i64) (.pr (.st (.pr (.int .i64) (.pr (.int .i64) (.pr (.int .i64) (.pr (.int .i64) (.pr .str (.pr (.sl (.st (.pr .str (.pr (.int .i64) .unit)))) .unit))))))) (.pr .str (.pr (.int .i64) (.pr (.sl (.int .i64)) .unit)))))
theorem i64_wf {x : Int} (h : Wf (.int .i64) x) : I64 x := h
theorem node_byt : Ty.byt NodeT = 128 := by kernel_rfl
theorem int_byt : Ty.byt (.int .i64) = 8 := by kernel_rfl
theorem nwf_of {L : List NodeD} (h : Wf (.sl NodeT) L) : NWf L := by
  obtain ⟨h1, h2⟩ := h
  have h1 : L.length * Ty.byt NodeT ≤ 140737488351232 := h1
  rw [node_byt] at h1
  refine ⟨by omega, fun n hn => ?_, fun n hn => ?_, fun n hn => ?_⟩
  · obtain ⟨_, _, _, _, ⟨h3, _⟩, _⟩ := h2 n hn
    have h3 : (nKids n).length * Ty.byt (.int .i64) ≤ 140737488351232 := h3
    rw [int_byt] at h3
    omega
  · obtain ⟨_, ⟨_, _, _, _, h3, _⟩, _⟩ := h2 n hn
    have h3 : (nWord n).length ≤ 140737488351232 := h3
    omega
  · obtain ⟨_, _, h3, _⟩ := h2 n hn
    have h3 : (nLayer n).length ≤ 140737488351232 := h3
    omega
/-- numbers in bounds -/
def NI (n : NodeD) : Prop := (I64 (nCode n) ∧ I64 (nSrc n) ∧ I64 (nLine n) ∧ I64 (nCol n)) ∧ I64 (nWhat n)
theorem ni_of {L : List NodeD} (h : Wf (.sl NodeT) L) : ∀ n ∈ L, NI n := fun n hn => by
  obtain ⟨_, ⟨h1, h2, h3, h4, _⟩, _, h5, _⟩ := h.2 n hn
  exact ⟨⟨h1, h2, h3, h4⟩, h5⟩
end Go.Fn
/- FaultKeeps, plainly: the law holds of every list. -/
namespace Go.Fn
open Go Go.Lf Go.Eng Go.Proofs
theorem all2_get {α β : Type} {R : α → β → Prop} {l : List α} {m : List β} (h : All2 R l m) : ∀ {k : Nat} {a : α}, l[k]? = some a → ∃ b, m[k]? = some b ∧ R a b := by
  induction h with
  | nil => intro k a h; simp at h
  | cons h1 _ ih =>
    intro k a hk
    cases k with
    | zero =>
      simp only [List.getElem?_cons_zero, Option.some.injEq] at hk
      subst hk
      exact ⟨_, rfl, h1⟩
    | succ k => simpa using ih (by simpa using hk)
theorem all2_len {α β : Type} {R : α → β → Prop} {l : List α} {m : List β} (h : All2 R l m) : m.length = l.length := by
  induction h with
  | nil => rfl
  | cons _ _ ih => simp [ih]
noncomputable def fltL (was s0 : List FaultD) : Option (List FaultD) := Go.Lf.loopC (σ := Int × List FaultD) (κ := List FaultD) (fun z36 =>
           bif (decide (z36.1 < (((List.length was) : Nat) : Int))) then (((Go.Lf.idx was z36.1)).bind fun r37 =>
             bif (decide ((r37.1 : Int) ≠ (10 : Int))) then ((Go.Lf.app (72 : Nat) z36.2 (r37 :: ([] : List FaultD)))).bind fun r38 =>
             some r38
             else some z36.2).bind fun r39 =>
           some (.inl ((Go.IntKind.wrap .i64 (z36.1 + (1 : Int))), r39))
           else some (.inr z36.2)) ((0 : Int), s0)
theorem fltL_ok (was s0 : List FaultD) (hl : was.length ≤ 1000000000) (hs : s0.length ≤ 10000000) : fltL was s0 = some (s0 ++ flt was) := by
  unfold fltL
  refine OkP.eq (OkP.range was (fun i s => s = s0 ++ flt (was.take i)) (fun i f s hi hI => ?_) (fun s hI => ?_) (by simp [flt]))
  · subst hI
    have hlt := (List.getElem?_eq_some_iff.1 hi).1
    have hb : decide ((i : Int) < ((List.length was : Nat) : Int)) = true := by simp; omega
    have ht : was.take (i + 1) = was.take i ++ [f] := by rw [List.take_add_one, hi]; rfl
    have hf : (flt (was.take i)).length ≤ i := Nat.le_trans (List.length_filter_le _ _) (by rw [List.length_take]; omega)
    simp only [hb, cond_true, idx_nat, hi, Option.bind_some]
    by_cases h10 : f.1 = 10
    · have e : decide ((f.1 : Int) ≠ 10) = false := decide_eq_false (by simp [h10])
      simp only [e, cond_false, Option.bind_some]
      refine OkP.of rfl ⟨wrapS (by omega), ?_⟩
      rw [ht, flt_app]
      simp [flt, h10]
    · have e : decide ((f.1 : Int) ≠ 10) = true := decide_eq_true h10
      simp only [e, cond_true]
      rw [app_of (by simp; omega)]
      refine OkP.of rfl ⟨wrapS (by omega), ?_⟩
      rw [ht, flt_app]
      simp [flt, h10]
  · subst hI
    simp only [Int.lt_irrefl, decide_false, cond_false]
    refine OkP.of rfl ?_
    rw [List.take_length]
theorem faultsOf_ok (a b : List FaultD) (hl : a.length ≤ 1000000000) (h : flt a = b) (ht : ∀ f ∈ a, f.2.2.2.2.2.1.length ≤ 1000000000) : foliolaw01_faultsOf a b = some true := by
  unfold foliolaw01_faultsOf
  have h1 := fltL_ok a [] hl (by simp)
  unfold fltL at h1
  rw [h1]
  simp only [Option.bind_some, List.nil_append, h]
  rw [sameAll_refl b (by rw [← h]; exact Nat.le_trans (List.length_filter_le _ _) hl) (fun f hf => ht f (by rw [← h] at hf; exact (List.mem_filter.1 hf).1))]
  rfl
theorem allV_len {v : Vw} {d n : Nat} (hd : Deep d n v) : (allV v).length ≤ n + 1 := by
  unfold allV
  cases v.isNil with
  | true => simp
  | false =>
    have := gathV_len v d n way0 hd
    simp only [cond_false]
    split
    · simp
    · omega
theorem bareV_len : ∀ (v : Vw) (d n : Nat), Deep d n v → (bareV v).length ≤ d
  | .nil, _, _, _ => by simp [bareV]
  | .new .., _, _, _ => by simp [bareV]
  | .und la wh k, d, n, h => by have := bareV_len k (d - 1) n h.2; have := h.1; simp only [bareV, List.length_cons]; omega
  | .inn s k, d, n, h => by have := bareV_len k (d - 1) n h.2; simp only [bareV]; omega
  | .join .., _, _, _ => by simp [bareV]
  | .plain .., _, _, _ => by simp [bareV]
  | .wrap .., _, _, _ => by simp [bareV]
  | .many .., _, _, _ => by simp [bareV]
theorem allV_trail {v : Vw} {d n : Nat} (hd : Deep d n v) : ∀ f ∈ allV v, f.2.2.2.2.2.1.length ≤ d := by
  unfold allV
  intro f hf
  cases hn : v.isNil with
  | true => rw [hn] at hf; cases hf
  | false =>
    rw [hn, cond_false] at hf
    split at hf
    · have : f = (10, (0, (0, (0, ([], (bareV v, ())))))) := by simpa using hf
      subst this
      exact bareV_len v d n hd
    · have := gath_trail v d n way0 hd f hf
      have e : way0.2.2.1.length = 0 := rfl
      omega
theorem vAt_get0 {L : List NodeD} {i : Nat} {v : Vw} (h : (Vs L)[i]? = some v) : vAt L (i : Int) = v := by
  show (Vs L).getD i .nil = v
  rw [List.getD_eq_getElem?_getD, h]
  rfl
set_option maxHeartbeats 1000000 in
theorem keeps_law (L : List NodeD) (la : List UInt8) (wh so : Int) (hw : NWf L) : foliolaw01_FaultKeeps L la wh so = some true := by
  unfold foliolaw01_FaultKeeps
  rw [awake]
  simp only [Option.bind_some, Bool.not_true, cond_false]
  refine OkP.eq ?_
  refine OkP.bind (fits_ok L hw) fun b hb => ?_
  cases b with
  | false => exact OkP.of rfl rfl
  | true =>
  obtain ⟨h200, tx, hone⟩ := hb rfl
  have hL : FitL L tx := ⟨h200, hone⟩
  simp only [Bool.not_true, cond_false, made_ok L h200 hone, Option.bind_some]
  refine OkP.bind (Q := fun r => match r with | .inl _ => True | .inr b => b = true) ?_ fun r hr => ?_
  · refine OkP.range (encs (Vs L)) (fun i s => (s.length < 2000 → s = JJ L i) ∧ s.length ≤ 2000000) (fun i x s hx hs => ?_) (fun s hs => ?_) ⟨fun _ => rfl, by simp⟩
    · have hxv := hx
      rw [encs_get] at hxv
      obtain ⟨v, hv, rfl⟩ := Option.map_eq_some_iff.1 hxv
      have hlt : i < L.length := by rw [← Vs_length]; exact (List.getElem?_eq_some_iff.1 hv).1
      have hva := vAt_get0 hv
      have hdd : ∀ j, j < L.length → Deep 201 1000000 ((Vs L).getD j .nil) := fun j hj => Deep.mono _ (by omega) (by have := (hone j hj).le; omega) (deepV hone j hj)
      have hd : Deep 201 1000000 v := by
        have := hdd i hlt
        rw [List.getD_eq_getElem?_getD, hv] at this
        exact this
      have hall := all_ok hd (by omega) (by omega)
      have hal := allV_len hd
      have hb : decide ((i : Int) < ((List.length (encs (Vs L)) : Nat) : Int)) = true := by rw [encs_len, Vs_length]; simp; omega
      simp only [hb, cond_true, idx_nat, hx, Option.bind_some, hall, under_ok, in_ok, nil_ok hL (by omega : (0 : Int) ≤ (i : Int)) (by omega), hva]
      cases hn : v.isNil with
      | true =>
        have e0 : fault_All (enc .nil) = some [] := rfl
        have e1 : allV v = [] := by unfold allV; rw [hn]; rfl
        simp only [cond_true, e0, e1, Option.bind_some, List.length_nil, show decide (((0 : Nat) : Int) ≠ 0) = false from rfl, Bool.not_false, cond_false, onSum]
        refine OkP.of rfl ⟨wrapS (by omega), fun h => ?_, hs.2⟩
        rw [JJ_succ hv, e1]
        show s = JJ L i ++ []
        rw [List.append_nil]
        exact hs.1 h
      | false =>
        have hu := all_ok (v := .und la wh v) (d := 202) (n := 1000000) ⟨by omega, hd⟩ (by omega) (by omega)
        have hi := all_ok (v := .inn so v) (d := 202) (n := 1000000) ⟨by omega, hd⟩ (by omega) (by omega)
        have ru := all_und hn la wh
        have ri := all_inn hn so
        have lu := all2_len ru
        have li := all2_len ri
        simp only [cond_false, hu, hi, Option.bind_some, lu, li, int_refl, Bool.not_false, cond_true]
        refine OkP.bind (Q := fun d => match d with | .inl _ => False | .inr s' => (s'.length < 2000 → s' = JJ L (i + 1)) ∧ s'.length ≤ 2000000) ?_ fun d hd' => ?_
        · refine OkP.bind (Q := fun d => match d with | .inl s' => s' = s | .inr _ => False) ?_ fun d hd' => ?_
          · refine OkP.range (allV v) (fun _ s' => s' = s) (fun k a s' hk hI => ?_) (fun s' hI => ?_) rfl
            · subst hI
              have hkl := (List.getElem?_eq_some_iff.1 hk).1
              obtain ⟨b, hb1, hb2⟩ := all2_get ru hk
              obtain ⟨c, hc1, hc2⟩ := all2_get ri hk
              obtain ⟨f, f1, f2, f3⟩ := bare_same hb2
              obtain ⟨g, g1, g2, g3⟩ := bare_same hc2
              have hgf : g = f := Option.some.inj (g1.symm.trans f1)
              subst hgf
              have htr := allV_trail hd a (List.mem_of_getElem? hk)
              have hbk : decide ((k : Int) < ((List.length (allV v) : Nat) : Int)) = true := by simp; omega
              have t1 : (((List.length b.2.2.2.2.2.1) : Nat) : Int) = IntKind.wrap .i64 ((((List.length a.2.2.2.2.2.1) : Nat) : Int) + 1) := by
                rw [wrapS (by omega), hb2.trail]
                simp
              have t2 : idx b.2.2.2.2.2.1 (0 : Int) = some (la, (wh, ())) := by rw [hb2.trail]; rfl
              have t3 : (((List.length c.2.2.2.2.2.1) : Nat) : Int) = (((List.length a.2.2.2.2.2.1) : Nat) : Int) := by rw [hc2.trail]; rfl
              simp only [hbk, cond_true, idx_nat, hk, hb1, hc1, Option.bind_some, f1, f2, f3, g1, g2, g3, Bool.not_true, Bool.not_false, hb2.source trivial, int_refl, ← t1, t2, step_refl, t3, cond_false]
              exact OkP.of rfl ⟨wrapS (by omega), rfl⟩
            · subst hI
              simp only [Int.lt_irrefl, decide_false, cond_false]
              exact OkP.of rfl rfl
          · cases d with
            | inr b => exact hd'.elim
            | inl s' =>
              have hd' : s' = s := hd'
              subst hd'
              simp only [onSum]
              by_cases h2k : s'.length < 2000
              · have hJ := hs.1 h2k
                have e1 : decide ((((List.length s') : Nat) : Int) < (2000 : Int)) = true := decide_eq_true (by omega)
                simp only [e1, cond_true]
                refine OkP.bind (Q := fun r => r = s' ++ flt (allV v)) (OkP.of (fltL_ok (allV v) s' (by omega) (by omega)) rfl) fun r40 h40 => ?_
                subst h40
                have hJ' : s' ++ flt (allV v) = JJ L (i + 1) := by rw [JJ_succ hv, ← hJ]
                have hjl : (s' ++ flt (allV v)).length ≤ 2000000 := by
                  have : (flt (allV v)).length ≤ (allV v).length := List.length_filter_le _ _
                  rw [List.length_append]; omega
                have e2 : IntKind.wrap .i64 ((i : Int) + (1 : Int)) = ((i + 1 : Nat) : Int) := wrapS (by omega)
                have e3 : sub (encs (Vs L)) (0 : Int) ((i + 1 : Nat) : Int) = some (encs ((Vs L).take (i + 1))) := by
                  have := sub_nat (l := encs (Vs L)) (a := 0) (b := i + 1) (by omega) (by rw [encs_len, Vs_length]; omega)
                  refine this.trans ?_
                  rw [List.drop_zero, Nat.sub_zero, encs_map, encs_map, List.map_take]
                have hj := join_ok ((Vs L).take (i + 1)) (by rw [List.length_take]; omega)
                have hdj : Deep 202 201000000 (joinV ((Vs L).take (i + 1))) := deep_join (by rw [List.length_take]; omega) (deeps_all (a := 1000000) _ _ (fun w hw' => by
                  obtain ⟨j, hj, rfl⟩ := List.mem_iff_getElem.1 (List.mem_of_mem_take hw')
                  have := hdd j (by rw [← Vs_length]; exact hj)
                  rw [List.getD_eq_getElem?_getD, List.getElem?_eq_getElem hj] at this
                  exact this) (by rw [List.length_take]; have : min (i + 1) (Vs L).length ≤ 201 := by omega
                                  omega))
                have hja := all_ok hdj (by omega) (by omega)
                rw [e2, e3]
                simp only [Option.bind_some, hj, hja]
                refine OkP.bind (Q := fun x : Bool × List FaultD => x = (false, s' ++ flt (allV v))) ?_ fun x hx2 => ?_
                · cases hpos : decide ((0 : Int) < (((List.length (s' ++ flt (allV v))) : Nat) : Int)) with
                  | false => exact OkP.of rfl rfl
                  | true =>
                    simp only [cond_true]
                    rw [faultsOf_ok _ (s' ++ flt (allV v)) (by have := allV_len hdj; omega) (by rw [hJ']; exact JJ_join L (i + 1)) (fun f hf => by have := allV_trail hdj f hf; omega)]
                    exact OkP.of rfl rfl
                · subst hx2
                  exact OkP.of rfl ⟨fun _ => hJ', hjl⟩
              · have e1 : decide ((((List.length s') : Nat) : Int) < (2000 : Int)) = false := decide_eq_false (by omega)
                simp only [e1, cond_false]
                exact OkP.of rfl ⟨fun h => absurd h h2k, hs.2⟩
        · cases d with
          | inl b => exact hd'.elim
          | inr s' => exact OkP.of rfl ⟨wrapS (by omega), hd'⟩
    · simp only [Int.lt_irrefl, decide_false, cond_false]
      exact OkP.of rfl trivial
  · cases r with
    | inl u => exact OkP.of rfl rfl
    | inr b =>
      have hr : b = true := hr
      exact OkP.of rfl hr
theorem keeps_wf (x0 : List NodeD) (x1 : List UInt8) (x2 x3 : Int) (h0 : Wf (.sl NodeT) x0) (_ : Wf .str x1) (_ : Wf (.int .i64) x2) (_ : Wf (.int .i64) x3) : foliolaw01_FaultKeeps x0 x1 x2 x3 = some true := keeps_law x0 x1 x2 x3 (nwf_of h0)
end Go.Fn
