/- Chapter 1, plainly: which lists may be gone through. -/
import Derived.Test.YtlidfdmdmiidfaaDoorQAE
namespace Go.Fn
open Go Go.Lf Go.Eng Go.Proofs
abbrev NodeD : Type := Int × ((Int × (Int × (Int × (Int × (List UInt8 × (List (List UInt8 × (Int × Unit)) × Unit)))))) × (List UInt8 × (Int × (List Int × Unit))))
abbrev nCode (n : NodeD) : Int := n.2.1.1
abbrev nSrc (n : NodeD) : Int := n.2.1.2.1
abbrev nLine (n : NodeD) : Int := n.2.1.2.2.1
abbrev nCol (n : NodeD) : Int := n.2.1.2.2.2.1
abbrev nWord (n : NodeD) : List UInt8 := n.2.1.2.2.2.2.1
abbrev nLayer (n : NodeD) : List UInt8 := n.2.2.1
abbrev nWhat (n : NodeD) : Int := n.2.2.2.1
abbrev nKids (n : NodeD) : List Int := n.2.2.2.2.1
/-- what is known of a list at first -/
structure NWf (L : List NodeD) : Prop where
  len : L.length ≤ 1099511627776
  kids : ∀ n ∈ L, (nKids n).length ≤ 17592186044416
  word : ∀ n ∈ L, (nWord n).length ≤ 140737488355328
  layer : ∀ n ∈ L, (nLayer n).length ≤ 140737488355328
def sumK (f : Nat → Int) (ks : List Int) : Int := (ks.map fun k => f k.toNat + 2).sum
def sumW (f : Nat → Int) (ks : List Int) : Int := (ks.map fun k => f k.toNat).sum
/-- what is known of one that may be gone through: how long its texts are -/
structure Fit1 (L : List NodeD) (tx : Nat → Int) (i : Nat) : Prop where
  kid : ∀ n, L[i]? = some n → ∀ k ∈ nKids n, 0 ≤ k ∧ k < i
  num : ∀ n, L[i]? = some n → (nKids n).length ≤ 20000
  text : ∀ n, L[i]? = some n → tx i = 60 + (nWord n).length + (nLayer n).length + sumK tx (nKids n)
  le : 0 ≤ tx i ∧ tx i ≤ 1000000
theorem chk_nat {n i : Nat} (h : i < n) : chk n (i : Int) = some i := by unfold chk; rw [if_pos (by omega)]; rfl
theorem chk_int {n : Nat} {i : Int} (h0 : 0 ≤ i) (h : i < n) : chk n i = some i.toNat := by unfold chk; rw [if_pos ⟨h0, h⟩]
theorem nth_D {l : List Int} {n : Nat} (h : n < l.length) : nth l n = some (l.getD n 0) := by unfold nth; rw [List.getElem?_eq_getElem h, List.getD_eq_getElem?_getD, List.getElem?_eq_getElem h]; rfl
theorem getD_set_self {l : List Int} {n : Nat} {x : Int} (h : n < l.length) : (l.set n x).getD n 0 = x := by simp [List.getD_eq_getElem?_getD, h]
theorem getD_set_ne' {l : List Int} {n m : Nat} {x : Int} (h : n ≠ m) : (l.set n x).getD m 0 = l.getD m 0 := by simp [List.getD_eq_getElem?_getD, List.getElem?_set, h]
theorem sumK_snoc (f : Nat → Int) (l : List Int) (k : Int) : sumK f (l ++ [k]) = sumK f l + (f k.toNat + 2) := by simp [sumK]
theorem sumW_snoc (f : Nat → Int) (l : List Int) (k : Int) : sumW f (l ++ [k]) = sumW f l + f k.toNat := by simp [sumW]
theorem sumK_congr {f g : Nat → Int} {l : List Int} (h : ∀ k ∈ l, f k.toNat = g k.toNat) : sumK f l = sumK g l := by
  unfold sumK
  rw [List.map_congr_left fun k hk => by rw [h k hk]]
/-- one node's numbers within, so many of them -/
structure InI (L : List NodeD) (i : Nat) (n : NodeD) (T0 W0 : List Int) (j : Nat) (s : List Int × List Int) : Prop where
  lt : s.1.length = L.length
  lw : s.2.length = L.length
  kid : ∀ k ∈ (nKids n).take j, 0 ≤ k ∧ k < i
  ot : ∀ m, m ≠ i → s.1.getD m 0 = T0.getD m 0
  ow : ∀ m, m ≠ i → s.2.getD m 0 = W0.getD m 0
  w : s.2.getD i 0 = 1 + sumW (fun m => W0.getD m 0) ((nKids n).take j)
  wb : 1 + (j : Int) ≤ s.2.getD i 0 ∧ s.2.getD i 0 ≤ 1 + 20000 * j
  t : j ≤ 20000 → s.1.getD i 0 = 60 + (nWord n).length + (nLayer n).length + sumK (fun m => T0.getD m 0) ((nKids n).take j) ∧ s.1.getD i 0 ≤ 281474976710716 + 1000002 * j ∧ 0 ≤ s.1.getD i 0
structure OutI (L : List NodeD) (i : Nat) (s : List Int × List Int) : Prop where
  lt : s.1.length = L.length
  lw : s.2.length = L.length
  fit : ∀ j, j < i → Fit1 L (fun m => s.1.getD m 0) j
  w : ∀ j, j < i → 1 ≤ s.2.getD j 0 ∧ s.2.getD j 0 ≤ 20000
set_option maxHeartbeats 1000000 in
theorem fits_ok (L : List NodeD) (hw : NWf L) : OkP False (foliolaw01_fits L) fun b => b = true → L.length ≤ 200 ∧ ∃ tx : Nat → Int, ∀ i, i < L.length → Fit1 L tx i := by
  have hlen := hw.len
  unfold foliolaw01_fits
  have hmk : made (8 : Nat) (0 : Int) ((L.length : Nat) : Int) ((L.length : Nat) : Int) = some (List.replicate L.length (0 : Int)) := by
    unfold made
    rw [if_pos ⟨by omega, rfl, by omega⟩]
    rfl
  refine OkP.bind (Q := fun r => r = List.replicate L.length (0 : Int)) (OkP.of hmk rfl) fun r1 hr1 => ?_
  refine OkP.bind (Q := fun r => r = List.replicate L.length (0 : Int)) (OkP.of hmk rfl) fun r2 hr2 => ?_
  subst hr1 hr2
  refine OkP.bind (Q := fun r => match r with | .inl _ => ∃ tx : Nat → Int, ∀ i, i < L.length → Fit1 L tx i | .inr b => b = false) ?_ fun r hr => ?_
  · refine OkP.loop (fun m z => ∃ i : Nat, i + m = L.length ∧ z.2.2 = (i : Int) ∧ OutI L i (z.1, z.2.1)) (fun m z hz => ?_) L.length _ ⟨0, by omega, rfl, ⟨List.length_replicate, List.length_replicate, fun j h => absurd h (by omega), fun j h => absurd h (by omega)⟩⟩
    obtain ⟨i, hi, hz1, hO⟩ := hz
    obtain ⟨T0, W0, z3⟩ := z
    simp only at hz1 hO
    subst hz1
    by_cases hlt : i < L.length
    · obtain ⟨n, hn⟩ : ∃ n, L[i]? = some n := ⟨L[i], List.getElem?_eq_getElem hlt⟩
      have hnm := List.mem_of_getElem? hn
      have hkl := hw.kids n hnm
      have hwl := hw.word n hnm
      have hll := hw.layer n hnm
      have hTl : T0.length = L.length := hO.lt
      have hWl : W0.length = L.length := hO.lw
      have hb : decide ((i : Int) < ((List.length L : Nat) : Int)) = true := by simp; omega
      simp only [hb, cond_true, idx_nat, hn, Option.bind_some]
      rw [chk_nat (by omega : i < W0.length)]
      simp only [Option.bind_some]
      rw [nth_D (by omega : i < W0.length)]
      simp only [Option.bind_some]
      rw [chk_nat (by omega : i < T0.length)]
      simp only [Option.bind_some]
      rw [nth_D (by omega : i < T0.length)]
      simp only [Option.bind_some]
      refine OkP.bind (Q := fun r => match r with | .inl s => InI L i n T0 W0 (nKids n).length s | .inr b => b = false) ?_ fun r hr => ?_
      · refine OkP.range (nKids n) (InI L i n T0 W0) (fun j k s hk hI => ?_) (fun s hI => ?_) ?_
        · obtain ⟨T, W⟩ := s
          have hjl := (List.getElem?_eq_some_iff.1 hk).1
          have hb : decide ((j : Int) < ((List.length (nKids n) : Nat) : Int)) = true := by simp; omega
          have htk : (nKids n).take (j + 1) = (nKids n).take j ++ [k] := by rw [List.take_add_one, hk]; rfl
          simp only [hb, cond_true, idx_nat, hk, Option.bind_some]
          by_cases hk0 : k < 0
          · simp only [hk0, decide_true, Bool.not_true, cond_false, cond_true, Option.bind_some]
            exact OkP.of rfl rfl
          by_cases hki : (i : Int) ≤ k
          · simp only [hk0, hki, decide_false, decide_true, Bool.not_false, cond_true, Option.bind_some]
            exact OkP.of rfl rfl
          · have hlT : T.length = L.length := hI.lt
            have hlW : W.length = L.length := hI.lw
            simp only [hk0, hki, decide_false, Bool.not_false, cond_true, cond_false, Option.bind_some]
            simp only [chk_nat (by omega : i < W.length), chk_nat (by omega : i < T.length), chk_int (by omega : 0 ≤ k) (by omega : k < (W.length : Nat)), chk_int (by omega : 0 ≤ k) (by omega : k < (T.length : Nat)), nth_D (by omega : i < W.length), nth_D (by omega : i < T.length), nth_D (by omega : k.toNat < W.length), nth_D (by omega : k.toNat < T.length), Option.bind_some]
            have hne : k.toNat ≠ i := by omega
            have hwk := hO.w k.toNat (by omega)
            have htk1 := (hO.fit k.toNat (by omega)).le
            simp only at hwk htk1
            have hTk : T.getD k.toNat 0 = T0.getD k.toNat 0 := hI.ot _ hne
            have hWk : W.getD k.toNat 0 = W0.getD k.toNat 0 := hI.ow _ hne
            obtain ⟨wb1, wb2⟩ := hI.wb
            have hw0 := hI.w
            simp only at wb1 wb2 hw0
            have hnew : IntKind.wrap .i64 (W.getD i 0 + W.getD k.toNat 0) = W.getD i 0 + W.getD k.toNat 0 := wrap64 (by omega) (by omega)
            refine OkP.of rfl ⟨wrapS (by omega), ⟨by simp [hlT], by simp [hlW], fun k' hk' => ?_, fun m hm => ?_, fun m hm => ?_, ?_, ?_, fun hj => ?_⟩⟩
            · rw [htk] at hk'
              rcases List.mem_append.1 hk' with h | h
              · exact hI.kid k' h
              · have : k' = k := by simpa using h
                subst this
                omega
            · exact (getD_set_ne' (Ne.symm hm)).trans (hI.ot m hm)
            · exact (getD_set_ne' (Ne.symm hm)).trans (hI.ow m hm)
            · show (W.set i _).getD i 0 = _
              rw [getD_set_self (by omega), hnew, htk, sumW_snoc, hw0, hWk]
              omega
            · show 1 + ((j + 1 : Nat) : Int) ≤ (W.set i _).getD i 0 ∧ (W.set i _).getD i 0 ≤ _
              rw [getD_set_self (by omega), hnew, hWk]
              omega
            · obtain ⟨t1, t2, t3⟩ := hI.t (by omega)
              simp only at t1 t2 t3
              have e1 : IntKind.wrap .i64 (T.getD k.toNat 0 + (2 : Int)) = T.getD k.toNat 0 + 2 := wrap64 (by omega) (by omega)
              have e2 : IntKind.wrap .i64 (T.getD i 0 + (T.getD k.toNat 0 + 2)) = T.getD i 0 + (T.getD k.toNat 0 + 2) := wrap64 (by omega) (by omega)
              show (T.set i _).getD i 0 = _ ∧ (T.set i _).getD i 0 ≤ _ ∧ 0 ≤ (T.set i _).getD i 0
              rw [getD_set_self (by omega), e1, e2, htk, sumK_snoc, hTk]
              refine ⟨?_, ?_, ?_⟩
              · rw [t1]; omega
              · omega
              · omega
        · simp only [Int.lt_irrefl, decide_false, cond_false]
          exact OkP.of rfl hI
        · have e1 : IntKind.wrap .i64 ((60 : Int) + (((List.length (nWord n)) : Nat) : Int)) = 60 + ((nWord n).length : Int) := wrap64 (by omega) (by omega)
          have e2 : IntKind.wrap .i64 (60 + ((nWord n).length : Int) + (((List.length (nLayer n)) : Nat) : Int)) = 60 + ((nWord n).length : Int) + ((nLayer n).length : Int) := wrap64 (by omega) (by omega)
          refine ⟨by simp [hTl], by simp [hWl], by simp, fun m hm => getD_set_ne' (Ne.symm hm), fun m hm => getD_set_ne' (Ne.symm hm), ?_, ?_, fun _ => ?_⟩
          · show (W0.set i _).getD i 0 = _
            rw [getD_set_self (by omega)]
            simp [sumW]
          · show 1 + ((0 : Nat) : Int) ≤ (W0.set i _).getD i 0 ∧ (W0.set i _).getD i 0 ≤ _
            rw [getD_set_self (by omega)]
            omega
          · show (T0.set i _).getD i 0 = _ ∧ (T0.set i _).getD i 0 ≤ _ ∧ 0 ≤ (T0.set i _).getD i 0
            rw [getD_set_self (by omega)]
            have e3 : IntKind.wrap .i64 (IntKind.wrap .i64 ((60 : Int) + (((List.length (nWord n)) : Nat) : Int)) + (((List.length (nLayer n)) : Nat) : Int)) = 60 + ((nWord n).length : Int) + ((nLayer n).length : Int) := by rw [e1, e2]
            rw [e3]
            refine ⟨by simp [sumK], by omega, by omega⟩
      · cases r with
        | inr b =>
          have hr : b = false := hr
          subst hr
          exact OkP.of rfl rfl
        | inl s =>
          obtain ⟨T, W⟩ := s
          have hI : InI L i n T0 W0 (nKids n).length (T, W) := hr
          have hlT : T.length = L.length := hI.lt
          have hlW : W.length = L.length := hI.lw
          simp only [onSum, chk_nat (by omega : i < W.length), chk_nat (by omega : i < T.length), nth_D (by omega : i < W.length), nth_D (by omega : i < T.length), Option.bind_some]
          by_cases h1 : (20000 : Int) < W.getD i 0
          · simp only [h1, decide_true, Bool.not_true, cond_false, cond_true, Option.bind_some]
            exact OkP.of rfl rfl
          by_cases h2 : (1000000 : Int) < T.getD i 0
          · simp only [h1, h2, decide_false, decide_true, Bool.not_false, cond_true, Option.bind_some]
            exact OkP.of rfl rfl
          · simp only [h1, h2, decide_false, Bool.not_false, cond_true, cond_false, Option.bind_some]
            obtain ⟨wb1, wb2⟩ := hI.wb
            simp only at wb1 wb2
            have hkn : (nKids n).length ≤ 20000 := by omega
            obtain ⟨t1, _, t3⟩ := hI.t hkn
            have hkid := hI.kid
            rw [List.take_length] at t1 hkid
            simp only at t1 t3
            refine OkP.of rfl ⟨m - 1, by omega, i + 1, by omega, wrapS (by omega), ⟨hlT, hlW, fun j hj => ?_, fun j hj => ?_⟩⟩
            · by_cases hji : j = i
              · subst hji
                refine ⟨fun n' hn' => ?_, fun n' hn' => ?_, fun n' hn' => ?_, t3, by show T.getD j 0 ≤ _; omega⟩
                · rw [hn] at hn'; injection hn' with e; subst e
                  exact hkid
                · rw [hn] at hn'; injection hn' with e; subst e
                  exact hkn
                · rw [hn] at hn'; injection hn' with e; subst e
                  show T.getD j 0 = _
                  rw [t1]
                  congr 1
                  exact sumK_congr fun k hk => (hI.ot _ (by have := hkid k hk; omega)).symm
              · have hF := hO.fit j (by omega)
                have hjT : T.getD j 0 = T0.getD j 0 := hI.ot j hji
                refine ⟨hF.kid, hF.num, fun n' hn' => ?_, ?_⟩
                · show T.getD j 0 = _
                  rw [hjT]
                  refine (hF.text n' hn').trans ?_
                  congr 1
                  exact sumK_congr fun k hk => (hI.ot _ (by have := hF.kid n' hn' k hk; omega)).symm
                · show 0 ≤ T.getD j 0 ∧ T.getD j 0 ≤ _
                  rw [hjT]
                  exact hF.le
            · by_cases hji : j = i
              · subst hji
                exact ⟨by show 1 ≤ W.getD j 0; omega, by show W.getD j 0 ≤ _; omega⟩
              · show 1 ≤ W.getD j 0 ∧ W.getD j 0 ≤ _
                have : W.getD j 0 = W0.getD j 0 := hI.ow j hji
                rw [this]
                exact hO.w j (by omega)
    · have hb : decide ((i : Int) < ((List.length L : Nat) : Int)) = false := by simp; omega
      simp only [hb, cond_false]
      exact OkP.of rfl ⟨_, fun j hj => hO.fit j (by omega)⟩
  · cases r with
    | inl u =>
      refine OkP.of rfl fun h => ?_
      have h := of_decide_eq_true h
      exact ⟨by omega, hr⟩
    | inr b =>
      have hr : b = false := hr
      subst hr
      exact OkP.of rfl fun h => by cases h
end Go.Fn
/- Chapter 1, plainly: the errors of a list. -/
namespace Go.Fn
open Go Go.Lf Go.Eng Go.Proofs
def firstV : List Vw → Vw
  | [] => .nil
  | v :: _ => v
def joinV (ks : List Vw) : Vw := match ks.filter fun v => !v.isNil with
  | [] => .nil
  | l => .join l
def mkV (n : NodeD) (ks : List Vw) : Vw :=
  if n.1 = 0 then (if nCode n = 0 then .nil else .new (nCode n) (nSrc n) (nLine n) (nCol n) (nWord n))
  else if n.1 = 1 then (bif (firstV ks).isNil then .nil else .und (nLayer n) (nWhat n) (firstV ks))
  else if n.1 = 2 then (bif (firstV ks).isNil then .nil else .inn (nWhat n) (firstV ks))
  else if n.1 = 3 then joinV ks
  else if n.1 = 4 then .plain (nLayer n)
  else if n.1 = 5 then .wrap (nLayer n) (firstV ks)
  else if n.1 = 6 then .many (nLayer n) ks
  else .nil
def kidV (vs : List Vw) (n : NodeD) : List Vw := (nKids n).map fun k => vs.getD k.toNat .nil
def Vs (L : List NodeD) : List Vw := L.foldl (fun vs n => vs ++ [mkV n (kidV vs n)]) []
theorem Vs_snoc (L : List NodeD) (n : NodeD) : Vs (L ++ [n]) = Vs L ++ [mkV n (kidV (Vs L) n)] := by unfold Vs; rw [List.foldl_append]; rfl
theorem Vs_take (L : List NodeD) {i : Nat} {n : NodeD} (h : L[i]? = some n) : Vs (L.take (i + 1)) = Vs (L.take i) ++ [mkV n (kidV (Vs (L.take i)) n)] := by
  rw [List.take_add_one, h]
  exact Vs_snoc _ _
theorem Vs_len (L : List NodeD) : ∀ i, i ≤ L.length → (Vs (L.take i)).length = i
  | 0, _ => by simp [Vs]
  | i + 1, h => by
    rw [Vs_take L (List.getElem?_eq_getElem (by omega : i < L.length)), List.length_append, Vs_len L i (by omega)]
    rfl
theorem Vs_pre (L : List NodeD) {i : Nat} : ∀ m, i + m ≤ L.length → (Vs (L.take (i + m))).take i = Vs (L.take i)
  | 0, h => by
    have := Vs_len L i h
    rw [Nat.add_zero]
    exact List.take_of_length_le (by omega)
  | m + 1, h => by
    rw [show i + (m + 1) = i + m + 1 by omega, Vs_take L (List.getElem?_eq_getElem (by omega : i + m < L.length)), List.take_append_of_le_length (by rw [Vs_len L _ (by omega)]; omega)]
    exact Vs_pre L m (by omega)
theorem Vs_full (L : List NodeD) : Vs (L.take L.length) = Vs L := by rw [List.take_length]
theorem Vs_length (L : List NodeD) : (Vs L).length = L.length := by have := Vs_len L L.length (Nat.le_refl _); rwa [Vs_full] at this
theorem Vs_getD (L : List NodeD) {i j : Nat} (hi : i ≤ L.length) (hj : j < i) : (Vs (L.take i)).getD j .nil = (Vs L).getD j .nil := by
  have h := Vs_pre L (i := i) (L.length - i) (by omega)
  rw [show i + (L.length - i) = L.length by omega, Vs_full] at h
  rw [← h]
  simp [List.getD_eq_getElem?_getD, List.getElem?_take, hj]
/-- the view of a node's error -/
theorem Vs_get (L : List NodeD) {i : Nat} {n : NodeD} (h : L[i]? = some n) (hk : ∀ k ∈ nKids n, 0 ≤ k ∧ k < i) : (Vs L)[i]? = some (mkV n (kidV (Vs L) n)) := by
  have hlt := (List.getElem?_eq_some_iff.1 h).1
  have e1 : kidV (Vs (L.take i)) n = kidV (Vs L) n := List.map_congr_left fun k hk' => Vs_getD L (by omega) (by have := hk k hk'; omega)
  have e2 := Vs_take L h
  have e3 := Vs_pre L (i := i + 1) (L.length - (i + 1)) (by omega)
  rw [show i + 1 + (L.length - (i + 1)) = L.length by omega, Vs_full, e2] at e3
  have e4 := congrArg (fun l => l[i]?) e3
  simp only [List.getElem?_take, Nat.lt_succ_self, if_true] at e4
  rw [e4, List.getElem?_append_right (by rw [Vs_len L i (by omega)]; omega), Vs_len L i (by omega), e1]
  simp
theorem enc_first (ks : List Vw) : foliolaw01_first (encs ks) = some (enc (firstV ks)) := by
  cases ks with
  | nil => rfl
  | cons v r =>
    unfold foliolaw01_first
    have : decide ((((List.length (encs (v :: r)) : Nat) : Int) : Int) = (0 : Int)) = false := decide_eq_false (by simp [encs]; omega)
    simp only [this, cond_false]
    rfl
theorem under_ok (v : Vw) (la : List UInt8) (wh : Int) : fault_Under (enc v) la wh = some (enc (bif v.isNil then .nil else .und la wh v)) := by
  unfold fault_Under
  rw [enc_nil]
  cases v.isNil <;> rfl
theorem in_ok (v : Vw) (s : Int) : fault_In (enc v) s = some (enc (bif v.isNil then .nil else .inn s v)) := by
  unfold fault_In
  rw [enc_nil]
  cases v.isNil <;> rfl
theorem new_ok (c s l o : Int) (w : List UInt8) : fault_New c s l o w = some (enc (if c = 0 then .nil else .new c s l o w)) := by
  unfold fault_New
  by_cases h : c = 0
  · simp only [h, decide_true, cond_true, if_true]; rfl
  · simp only [h, decide_false, cond_false, if_false]; rfl
theorem encs_app (l m : List Vw) : encs (l ++ m) = encs l ++ encs m := by simp [encs_map]
theorem encs_len (l : List Vw) : (encs l).length = l.length := by simp [encs_map]
theorem encs_get (l : List Vw) (i : Nat) : (encs l)[i]? = l[i]?.map enc := by rw [encs_map, List.getElem?_map]
theorem join_ok (ks : List Vw) (hl : ks.length ≤ 1048576) : fault_Join (encs ks) = some (enc (joinV ks)) := by
  unfold fault_Join
  refine OkP.eq ?_
  refine OkP.bind (Q := fun r => r = encs (ks.filter fun v => !v.isNil)) ?_ fun r hr => ?_
  · refine OkP.range (encs ks) (fun i s => s = encs ((ks.take i).filter fun v => !v.isNil)) (fun i x s hx hs => ?_) (fun s hs => ?_) rfl
    · subst hs
      rw [encs_get] at hx
      obtain ⟨v, hv, rfl⟩ := Option.map_eq_some_iff.1 hx
      have hlt := (List.getElem?_eq_some_iff.1 hv).1
      have hlen : (encs ks).length = ks.length := encs_len ks
      have hg : (encs ks)[i]? = some (enc v) := by rw [encs_get, hv]; rfl
      have hb : decide ((i : Int) < ((encs ks).length : Int)) = true := by simp [hlen]; omega
      have hf : ((ks.take i).filter fun v => !v.isNil).length ≤ i := Nat.le_trans (List.length_filter_le _ _) (by rw [List.length_take]; omega)
      have ht : ks.take (i + 1) = ks.take i ++ [v] := by rw [List.take_add_one, hv]; rfl
      simp only [hb, cond_true, idx_nat, hg, Option.bind_some, enc_nil]
      cases hn : v.isNil with
      | true =>
        simp only [Bool.not_true, cond_false, Option.bind_some]
        refine OkP.of rfl ⟨wrapS (by omega), ?_⟩
        rw [ht, List.filter_append]
        simp [hn]
      | false =>
        simp only [Bool.not_false, cond_true, Option.bind_some]
        rw [app_of (by rw [encs_len]; simp; omega)]
        simp only [Option.bind_some]
        refine OkP.of rfl ⟨wrapS (by omega), ?_⟩
        rw [ht, List.filter_append, encs_app]
        simp [hn, encs]
    · subst hs
      simp only [Int.lt_irrefl, decide_false, cond_false]
      refine OkP.of rfl ?_
      rw [encs_len, List.take_length]
  · subst hr
    unfold joinV
    cases hk : ks.filter fun v => !v.isNil with
    | nil => exact OkP.of rfl rfl
    | cons v r =>
      have : decide ((((List.length (encs (v :: r)) : Nat) : Int) : Int) = (0 : Int)) = false := decide_eq_false (by simp [encs]; omega)
      simp only [this, cond_false]
      exact OkP.of rfl rfl
theorem within_ok (vs : List Vw) (i : Nat) (ks : List Int) (hl : ks.length ≤ 1048576) (hv : vs.length = i) (hk : ∀ k ∈ ks, 0 ≤ k ∧ k < i) : foliolaw01_within (encs vs) (i : Int) ks = some (encs (ks.map fun k => vs.getD k.toNat .nil)) := by
  unfold foliolaw01_within
  refine OkP.eq ?_
  refine OkP.bind (Q := fun r => r = encs (ks.map fun k => vs.getD k.toNat .nil)) ?_ fun r hr => OkP.of rfl hr
  refine OkP.range ks (fun j s => s = encs ((ks.take j).map fun k => vs.getD k.toNat .nil)) (fun j k s hj hs => ?_) (fun s hs => ?_) rfl
  · subst hs
    have hlt := (List.getElem?_eq_some_iff.1 hj).1
    have hkk := hk k (List.mem_of_getElem? hj)
    have hb : decide ((j : Int) < (ks.length : Int)) = true := by simp; omega
    have h1 : decide ((0 : Int) ≤ k) = true := by simp [hkk.1]
    have h2 : decide (k < (i : Int)) = true := by simp [hkk.2]
    have hlv : k.toNat < vs.length := by omega
    have h3 : idx (encs vs) k = some (enc (vs.getD k.toNat .nil)) := by
      have e : (k.toNat : Int) = k := by omega
      rw [← e, idx_nat, encs_get, List.getElem?_eq_getElem (by omega), List.getD_eq_getElem?_getD, List.getElem?_eq_getElem (by omega)]
      rfl
    simp only [hb, cond_true, idx_nat, hj, Option.bind_some, h1, h2, h3]
    rw [app_of (by rw [encs_len, List.length_map, List.length_take]; simp; omega)]
    refine OkP.of rfl ⟨wrapS (by omega), ?_⟩
    rw [List.take_add_one, hj, List.map_append, encs_app]
    rfl
  · subst hs
    simp only [Int.lt_irrefl, decide_false, cond_false]
    refine OkP.of rfl ?_
    rw [List.take_length]
theorem made_ok (L : List NodeD) (hlen : L.length ≤ 200) {tx : Nat → Int} (hF : ∀ i, i < L.length → Fit1 L tx i) : foliolaw01_made L = some (encs (Vs L)) := by
  unfold foliolaw01_made
  refine OkP.eq ?_
  refine OkP.bind (Q := fun r => r = encs (Vs L)) ?_ fun r hr => OkP.of rfl hr
  refine OkP.range L (fun i s => s = encs (Vs (L.take i))) (fun i n s hn hs => ?_) (fun s hs => ?_) rfl
  · subst hs
    have hlt := (List.getElem?_eq_some_iff.1 hn).1
    have hf := hF i hlt
    have hkid := hf.kid n hn
    have hnum := hf.num n hn
    have hb : decide ((i : Int) < (L.length : Int)) = true := by simp; omega
    have hvl := Vs_len L i (by omega)
    have hw := within_ok (Vs (L.take i)) i (nKids n) (by omega) hvl hkid
    have hkl : ((nKids n).map fun k => (Vs (L.take i)).getD k.toNat .nil).length ≤ 1048576 := by rw [List.length_map]; omega
    simp only [hb, cond_true, idx_nat, hn, Option.bind_some, hw, enc_first, under_ok, in_ok, new_ok, join_ok _ hkl]
    have fin : ∀ e : Er, e = enc (mkV n (kidV (Vs (L.take i)) n)) → OkP False ((app 16 (encs (Vs (L.take i))) (e :: [])).bind fun r12 => some (Sum.inl ((IntKind.wrap .i64 ((i : Int) + (1 : Int)), r12) : Int × List Er) : Sum (Int × List Er) (List Er))) (fun d => match d with | .inl z => z.1 = ((i + 1 : Nat) : Int) ∧ z.2 = encs (Vs (L.take (i + 1))) | .inr k => k = encs (Vs L)) := fun e he => by
      rw [app_of (by rw [encs_len, hvl]; simp; omega)]
      refine OkP.of rfl ⟨wrapS (by omega), ?_⟩
      rw [Vs_take L hn, encs_app, he]
      rfl
    unfold mkV at fin
    by_cases h0 : n.1 = 0
    · simp only [h0, if_true, decide_true, cond_true, Option.bind_some] at fin ⊢
      exact (fin _ rfl).imp id fun d hd => by cases d <;> exact hd
    by_cases h1 : n.1 = 1
    · simp only [h1, if_true, decide_true, cond_true, Option.bind_some, show ((1 : Int) = 0) = False from by simp, decide_false, cond_false, if_false] at fin ⊢
      exact (fin _ rfl).imp id fun d hd => by cases d <;> exact hd
    by_cases h2 : n.1 = 2
    · simp only [h2, if_true, decide_true, cond_true, Option.bind_some, show ((2 : Int) = 0) = False from by simp, show ((2 : Int) = 1) = False from by simp, decide_false, cond_false, if_false] at fin ⊢
      exact (fin _ rfl).imp id fun d hd => by cases d <;> exact hd
    by_cases h3 : n.1 = 3
    · simp only [h3, if_true, decide_true, cond_true, Option.bind_some, show ((3 : Int) = 0) = False from by simp, show ((3 : Int) = 1) = False from by simp, show ((3 : Int) = 2) = False from by simp, decide_false, cond_false, if_false] at fin ⊢
      exact (fin _ rfl).imp id fun d hd => by cases d <;> exact hd
    simp only [h0, h1, h2, h3, if_false, decide_false, cond_false] at fin ⊢
    by_cases h4 : n.1 = 4
    · simp only [h4, if_true, decide_true, cond_true, Option.bind_some] at fin ⊢
      exact (fin _ rfl).imp id fun d hd => by cases d <;> exact hd
    by_cases h5 : n.1 = 5
    · simp only [h5, if_true, decide_true, cond_true, Option.bind_some, show ((5 : Int) = 4) = False from by simp, decide_false, cond_false, if_false] at fin ⊢
      exact (fin _ rfl).imp id fun d hd => by cases d <;> exact hd
    by_cases h6 : n.1 = 6
    · simp only [h6, if_true, decide_true, cond_true, Option.bind_some, show ((6 : Int) = 4) = False from by simp, show ((6 : Int) = 5) = False from by simp, decide_false, cond_false, if_false] at fin ⊢
      exact (fin _ rfl).imp id fun d hd => by cases d <;> exact hd
    simp only [h4, h5, h6, if_false, decide_false, cond_false, Option.bind_some] at fin ⊢
    exact (fin _ rfl).imp id fun d hd => by cases d <;> exact hd
  · subst hs
    simp only [Int.lt_irrefl, decide_false, cond_false]
    refine OkP.of rfl ?_
    rw [List.take_length]
end Go.Fn
/- Chapter 1, plainly: how deep errors are. -/
namespace Go.Fn
open Go Go.Lf Go.Eng Go.Proofs
mutual
/-- how deep, how many faults, no list too long -/
def Deep : Nat → Nat → Vw → Prop
  | _, _, .nil => True
  | _, n, .new .. => 1 ≤ n
  | d, n, .und _ _ k => 1 ≤ d ∧ Deep (d - 1) n k
  | d, n, .inn _ k => 1 ≤ d ∧ Deep (d - 1) n k
  | d, n, .join ks => 1 ≤ d ∧ ks.length ≤ 1048576 ∧ Deeps (d - 1) n ks
  | _, _, .plain _ => True
  | d, n, .wrap _ k => 1 ≤ d ∧ Deep (d - 1) n k
  | d, n, .many _ ks => 1 ≤ d ∧ ks.length ≤ 1048576 ∧ Deeps (d - 1) n ks
def Deeps : Nat → Nat → List Vw → Prop
  | _, _, [] => True
  | d, n, v :: r => ∃ a, a ≤ n ∧ Deep d a v ∧ Deeps d (n - a) r
end
mutual
theorem Deep.mono : ∀ (v : Vw) {d d' n n' : Nat}, d ≤ d' → n ≤ n' → Deep d n v → Deep d' n' v
  | .nil, _, _, _, _, _, _, _ => trivial
  | .new .., _, _, _, _, _, hn, h => by have h : 1 ≤ _ := h; show 1 ≤ _; omega
  | .und _ _ k, _, _, _, _, hd, hn, h => ⟨by have := h.1; omega, Deep.mono k (by omega) hn h.2⟩
  | .inn _ k, _, _, _, _, hd, hn, h => ⟨by have := h.1; omega, Deep.mono k (by omega) hn h.2⟩
  | .join ks, _, _, _, _, hd, hn, h => ⟨by have := h.1; omega, h.2.1, Deeps.mono ks (by omega) hn h.2.2⟩
  | .plain _, _, _, _, _, _, _, _ => trivial
  | .wrap _ k, _, _, _, _, hd, hn, h => ⟨by have := h.1; omega, Deep.mono k (by omega) hn h.2⟩
  | .many _ ks, _, _, _, _, hd, hn, h => ⟨by have := h.1; omega, h.2.1, Deeps.mono ks (by omega) hn h.2.2⟩
theorem Deeps.mono : ∀ (l : List Vw) {d d' n n' : Nat}, d ≤ d' → n ≤ n' → Deeps d n l → Deeps d' n' l
  | [], _, _, _, _, _, _, _ => trivial
  | v :: r, _, _, _, _, hd, hn, h => by
    obtain ⟨a, h1, h2, h3⟩ := h
    exact ⟨a, by omega, Deep.mono v hd (Nat.le_refl _) h2, Deeps.mono r hd (by omega) h3⟩
end
theorem deeps_filter {d : Nat} : ∀ (l : List Vw) (n : Nat), Deeps d n l → Deeps d n (l.filter fun v => !v.isNil)
  | [], _, _ => trivial
  | v :: r, n, h => by
    obtain ⟨a, h1, h2, h3⟩ := h
    have h4 := deeps_filter r _ h3
    cases hn : v.isNil with
    | true => rw [List.filter_cons_of_neg (by simp [hn])]; exact Deeps.mono _ (Nat.le_refl _) (by omega) h4
    | false => rw [List.filter_cons_of_pos (by simp [hn])]; exact ⟨a, h1, h2, h4⟩
theorem deep_join {d n : Nat} {ks : List Vw} (hl : ks.length ≤ 1048576) (h : Deeps d n ks) : Deep (d + 1) n (joinV ks) := by
  unfold joinV
  have h1 := deeps_filter ks n h
  have h2 := List.length_filter_le (fun v : Vw => !v.isNil) ks
  split
  · exact trivial
  · exact ⟨by omega, by omega, h1⟩
theorem deeps_all {d a : Nat} : ∀ (l : List Vw) (n : Nat), (∀ v ∈ l, Deep d a v) → l.length * a ≤ n → Deeps d n l
  | [], _, _, _ => trivial
  | v :: r, n, h, hn => by
    rw [List.length_cons, Nat.add_mul, Nat.one_mul] at hn
    exact ⟨a, by omega, h v List.mem_cons_self, deeps_all r _ (fun v hv => h v (List.mem_cons_of_mem _ hv)) (by omega)⟩
theorem deeps_kids {L : List NodeD} {tx : Nat → Int} {d : Nat} : ∀ (ks : List Int) (n : Nat), (∀ k ∈ ks, 0 ≤ tx k.toNat ∧ Deep d (tx k.toNat).toNat ((Vs L).getD k.toNat .nil)) → sumK tx ks ≤ n → Deeps d n (ks.map fun k => (Vs L).getD k.toNat .nil)
  | [], _, _, _ => trivial
  | k :: r, n, h, hb => by
    have h1 := h k List.mem_cons_self
    have hr := fun k hk => h k (List.mem_cons_of_mem _ hk)
    have hp : 0 ≤ sumK tx r := by
      clear hb h h1
      induction r with
      | nil => simp [sumK]
      | cons a r ih =>
        have h2 := ih fun k hk => hr k (List.mem_cons_of_mem _ hk)
        have h3 := (hr a List.mem_cons_self).1
        simp only [sumK, List.map_cons, List.sum_cons] at h2 ⊢
        omega
    have e : sumK tx (k :: r) = tx k.toNat + 2 + sumK tx r := by simp [sumK]
    rw [e] at hb
    exact ⟨(tx k.toNat).toNat, by omega, h1.2, deeps_kids r _ hr (by omega)⟩
theorem deepV {L : List NodeD} {tx : Nat → Int} (hL : ∀ i, i < L.length → Fit1 L tx i) : ∀ (i : Nat), i < L.length → Deep (i + 1) (tx i).toNat ((Vs L).getD i .nil) := by
  intro i
  induction i using Nat.strongRecOn with
  | ind i ih =>
  intro hi
  obtain ⟨n, hn⟩ : ∃ n, L[i]? = some n := ⟨L[i], List.getElem?_eq_getElem hi⟩
  have hF := hL i hi
  have hkid := hF.kid n hn
  have ht := hF.text n hn
  have hle := hF.le
  have hnum := hF.num n hn
  have hk : ∀ k ∈ nKids n, 0 ≤ tx k.toNat ∧ Deep i (tx k.toNat).toNat ((Vs L).getD k.toNat .nil) := fun k hk => by
    have h1 := hkid k hk
    exact ⟨(hL k.toNat (by omega)).le.1, Deep.mono _ (by omega) (Nat.le_refl _) (ih k.toNat (by omega) (by omega))⟩
  have hds : Deeps i (tx i).toNat (kidV (Vs L) n) := deeps_kids (nKids n) _ hk (by omega)
  have hkl : (kidV (Vs L) n).length ≤ 1048576 := by unfold kidV; rw [List.length_map]; omega
  have e : (Vs L).getD i .nil = mkV n (kidV (Vs L) n) := by
    rw [List.getD_eq_getElem?_getD, Vs_get L hn hkid]
    rfl
  rw [e]
  have hfirst : Deep i (tx i).toNat (firstV (kidV (Vs L) n)) := by
    revert hds
    generalize kidV (Vs L) n = ks
    intro hds
    cases ks with
    | nil => exact trivial
    | cons v r =>
      obtain ⟨a, h1, h2, _⟩ := hds
      exact Deep.mono _ (Nat.le_refl _) h1 h2
  have hpos : 1 ≤ (tx i).toNat := by
    have hp : 0 ≤ sumK tx (nKids n) := by
      have : ∀ l : List Int, (∀ k ∈ l, 0 ≤ tx k.toNat) → 0 ≤ sumK tx l := fun l => by
        induction l with
        | nil => intro _; simp [sumK]
        | cons a r ih2 =>
          intro h
          have h2 := ih2 fun k hk => h k (List.mem_cons_of_mem _ hk)
          have h3 := h a List.mem_cons_self
          simp only [sumK, List.map_cons, List.sum_cons] at h2 ⊢
          omega
      exact this _ fun k h => (hk k h).1
    omega
  unfold mkV
  split
  · split
    · exact trivial
    · exact hpos
  split
  · cases (firstV (kidV (Vs L) n)).isNil with
    | true => exact trivial
    | false => exact ⟨by omega, hfirst⟩
  split
  · cases (firstV (kidV (Vs L) n)).isNil with
    | true => exact trivial
    | false => exact ⟨by omega, hfirst⟩
  split
  · exact deep_join hkl hds
  split
  · exact trivial
  split
  · exact ⟨by omega, hfirst⟩
  split
  · exact ⟨by omega, hkl, hds⟩
  · exact trivial
theorem unw_join (ks : List Vw) (h : ks.length ≤ 1048576) : mUnwraps (enc (.join ks)) = some (encs ks) := by
  show (app 16 ([] : List Er) (encs ks)).bind _ = _
  have hl : (encs ks).length = ks.length := by rw [encs_map, List.length_map]
  rw [app_of (by rw [hl]; simp; omega)]
  rfl
end Go.Fn
/- From what a row says of its arguments. -/
namespace Go.Fn
open Go Go.Lf Go.Eng Go.Proofs
abbrev NodeT : Ty := .st (.pr (.int .i64) (.pr (.st (.pr (.int .i64) (.pr (.int .i64) (.pr (.int .i64) (.pr (.int .i64) (.pr .str (.pr (.sl (.st (.pr .str (.pr (.int .i64) .unit)))) .unit))))))) (.pr .str (.pr (.int .i64) (.pr (.sl (.int .i64)) .unit)))))
theorem i64_wf {x : Int} (h : Wf (.int .i64) x) : I64 x := h
theorem node_byt : Ty.byt NodeT = 128 := by kernel_rfl
theorem int_byt : Ty.byt (.int .i64) = 8 := by kernel_rfl
theorem nwf_of {L : List NodeD} (h : Wf (.sl NodeT) L) : NWf L := by
  obtain ⟨h1, h2⟩ := h
  have h1 : L.length * Ty.byt NodeT ≤ 140737488351232 := h1
  rw [node_byt] at h1
  refine ⟨by omega, fun n hn => ?_, fun n hn => ?_, fun n hn => ?_⟩
  · obtain ⟨_, _, _, _, ⟨h3, _⟩, _⟩ := h2 n hn
    have h3 : (nKids n).length * Ty.byt (.int .i64) ≤ 140737488351232 := h3
    rw [int_byt] at h3
    omega
  · obtain ⟨_, ⟨_, _, _, _, h3, _⟩, _⟩ := h2 n hn
    have h3 : (nWord n).length ≤ 140737488351232 := h3
    omega
  · obtain ⟨_, _, h3, _⟩ := h2 n hn
    have h3 : (nLayer n).length ≤ 140737488351232 := h3
    omega
/-- numbers in bounds -/
def NI (n : NodeD) : Prop := (I64 (nCode n) ∧ I64 (nSrc n) ∧ I64 (nLine n) ∧ I64 (nCol n)) ∧ I64 (nWhat n)
theorem ni_of {L : List NodeD} (h : Wf (.sl NodeT) L) : ∀ n ∈ L, NI n := fun n hn => by
  obtain ⟨_, ⟨h1, h2, h3, h4, _⟩, _, h5, _⟩ := h.2 n hn
  exact ⟨⟨h1, h2, h3, h4⟩, h5⟩
end Go.Fn
/- FaultCodes, plainly. -/
namespace Go.Fn
open Go Go.Lf Go.Eng Go.Proofs
mutual
/-- whether it has such a code -/
def hasV (c : Int) : Vw → Bool
  | .nil => false
  | .new k _ _ _ _ => decide (k = c)
  | .und _ _ k => hasV c k
  | .inn _ k => hasV c k
  | .join ks => hasVs c ks
  | .plain _ => false
  | .wrap _ k => hasV c k
  | .many _ ks => hasVs c ks
def hasVs (c : Int) : List Vw → Bool
  | [] => false
  | v :: r => hasV c v || hasVs c r
end
theorem is_new (n : Nat) (c k s l o : Int) (w : List UInt8) : isN (n + 1) c (enc (.new k s l o w)) = some (decide ((1 : Int) = 1) && decide (k = c)) := rfl
theorem is_und (n : Nat) (c : Int) (la : List UInt8) (wh : Int) (k : Vw) : isN (n + 1) c (enc (.und la wh k)) = isN n c (enc k) := rfl
theorem is_inn (n : Nat) (c : Int) (s : Int) (k : Vw) : isN (n + 1) c (enc (.inn s k)) = isN n c (enc k) := rfl
theorem is_join (n : Nat) (c : Int) (ks : List Vw) (h : ks.length ≤ 1048576) : isN (n + 1) c (enc (.join ks)) = bif Nat.ble (encs ks).length 1048576 then anyN (isN n c) (encs ks) else none := by
  show (mUnwraps (enc (.join ks))).bind (fun l => bif Nat.ble l.length 1048576 then anyN (isN n c) l else none) = _
  rw [unw_join ks h]
  rfl
theorem is_plain (n : Nat) (c : Int) (t : List UInt8) : isN (n + 1) c (enc (.plain t)) = some false := rfl
theorem is_wrap (n : Nat) (c : Int) (t : List UInt8) (k : Vw) : isN (n + 1) c (enc (.wrap t k)) = isN n c (enc k) := rfl
theorem is_many (n : Nat) (c : Int) (t : List UInt8) (ks : List Vw) : isN (n + 1) c (enc (.many t ks)) = bif Nat.ble (encs ks).length 1048576 then anyN (isN n c) (encs ks) else none := rfl
mutual
theorem is_enc (c : Int) : ∀ (v : Vw) (d n m : Nat), Deep d n v → d < m → isN m c (enc v) = some (hasV c v)
  | v, _, _, 0, _, h => absurd h (by omega)
  | .nil, _, _, _ + 1, _, _ => rfl
  | .new k s l o w, _, _, m + 1, _, _ => by rw [is_new]; simp [hasV]
  | .und la wh k, d, n, m + 1, h, hm => by rw [is_und, is_enc c k (d - 1) n m h.2 (by have := h.1; omega)]; rfl
  | .inn s k, d, n, m + 1, h, hm => by rw [is_inn, is_enc c k (d - 1) n m h.2 (by have := h.1; omega)]; rfl
  | .join ks, d, n, m + 1, h, hm => by
    have e : Nat.ble (encs ks).length 1048576 = true := Nat.ble_eq_true_of_le (by rw [encs_len]; exact h.2.1)
    rw [is_join _ _ _ h.2.1, e, cond_true, is_encs c ks (d - 1) n m h.2.2 (by have := h.1; omega)]; rfl
  | .plain t, _, _, m + 1, _, _ => rfl
  | .wrap t k, d, n, m + 1, h, hm => by rw [is_wrap, is_enc c k (d - 1) n m h.2 (by have := h.1; omega)]; rfl
  | .many t ks, d, n, m + 1, h, hm => by
    have e : Nat.ble (encs ks).length 1048576 = true := Nat.ble_eq_true_of_le (by rw [encs_len]; exact h.2.1)
    rw [is_many, e, cond_true, is_encs c ks (d - 1) n m h.2.2 (by have := h.1; omega)]; rfl
theorem is_encs (c : Int) : ∀ (l : List Vw) (d n m : Nat), Deeps d n l → d < m → anyN (isN m c) (encs l) = some (hasVs c l)
  | [], _, _, _, _, _ => rfl
  | v :: r, d, n, m, h, hm => by
    obtain ⟨a, h1, h2, h3⟩ := h
    show (isN m c (enc v)).bind _ = _
    rw [is_enc c v d a m h2 hm]
    simp only [Option.bind_some, is_encs c r d _ m h3 hm, hasVs]
    cases hasV c v <;> rfl
end
theorem fis_ok {c : Int} (hc : c ≠ 0) {v : Vw} {d n : Nat} (h : Deep d n v) (hd : d < 400) : fault_Is (enc v) c = some (hasV c v) := by
  unfold fault_Is
  rw [decide_eq_false hc, cond_false]
  exact is_enc c v d n 400 h hd
theorem hasVs_filter (c : Int) : ∀ l : List Vw, hasVs c (l.filter fun v => !v.isNil) = hasVs c l
  | [] => rfl
  | v :: r => by
    cases hn : v.isNil with
    | true =>
      rw [List.filter_cons_of_neg (by simp [hn]), hasVs_filter c r]
      have : hasV c v = false := by cases v <;> first | rfl | cases hn
      simp [hasVs, this]
    | false =>
      rw [List.filter_cons_of_pos (by simp [hn])]
      simp only [hasVs, hasVs_filter c r]
theorem has_join (c : Int) (l : List Vw) : hasV c (joinV l) = hasVs c l := by
  rw [← hasVs_filter]
  unfold joinV
  split
  · rename_i h
    rw [h]
    rfl
  · rfl
theorem hasVs_take (c : Int) (l : List Vw) (i : Nat) (v : Vw) (h : l[i]? = some v) : hasVs c (l.take (i + 1)) = (hasVs c (l.take i) || hasV c v) := by
  have happ : ∀ a b : List Vw, hasVs c (a ++ b) = (hasVs c a || hasVs c b) := fun a b => by
    induction a with
    | nil => simp [hasVs]
    | cons x r ih => simp [hasVs, ih, Bool.or_assoc]
  rw [List.take_add_one, h, happ]
  simp [hasVs]
theorem eis_code {c : Int} (hc : c ≠ 0) {v : Vw} {d n : Nat} (h : Deep d n v) (hd : d < 400) {T : Er} (hT : T = enc (.new c 0 0 0 [])) : errors_Is (enc v, T) = some (hasV c v) := by
  subst hT
  show (bif decide ((1 : Int) = 1) then isN 400 c (enc v) else none) = _
  rw [show decide ((1 : Int) = 1) = true from rfl, cond_true]
  exact is_enc c v d n 400 h hd
set_option maxHeartbeats 1000000 in
theorem codes_law (L : List NodeD) (cs : List Int) (hw : NWf L) : foliolaw01_FaultCodes L cs = some true := by
  unfold foliolaw01_FaultCodes
  rw [awake]
  simp only [Option.bind_some, Bool.not_true, cond_false]
  refine OkP.eq ?_
  refine OkP.bind (Q := fun r => r = false → cs.length ≤ 20 ∧ L.length ≤ 200 ∧ ∃ tx, ∀ i, i < L.length → Fit1 L tx i) ?_ fun b hb => ?_
  · refine OkP.bind (fits_ok L hw) fun b hb => ?_
    cases b with
    | false => exact OkP.of rfl (fun h => by cases h)
    | true =>
      obtain ⟨h200, tx, hone⟩ := hb rfl
      by_cases h20 : (20 : Int) < ((cs.length : Nat) : Int)
      · simp only [h20, decide_true, Bool.not_true, cond_false, cond_true]
        exact OkP.of rfl (fun h => by cases h)
      · simp only [h20, decide_false, Bool.not_true, Bool.not_false, cond_true]
        exact OkP.of rfl fun _ => ⟨by omega, h200, tx, hone⟩
  cases b with
  | true => exact OkP.of rfl rfl
  | false =>
  obtain ⟨hc20, h200, tx, hone⟩ := hb rfl
  simp only [cond_false, made_ok L h200 hone, Option.bind_some]
  have hdd : ∀ j, j < L.length → Deep 201 1000000 ((Vs L).getD j .nil) := fun j hj => Deep.mono _ (by omega) (by have := (hone j hj).le; omega) (deepV hone j hj)
  have hdv : ∀ {i : Nat} {v : Vw}, (Vs L)[i]? = some v → Deep 201 1000000 v := fun {i v} hv => by
    have := hdd i (by rw [← Vs_length]; exact (List.getElem?_eq_some_iff.1 hv).1)
    rw [List.getD_eq_getElem?_getD, hv] at this
    exact this
  refine OkP.bind (Q := fun r => match r with | .inl _ => True | .inr b => b = true) ?_ fun r hr => ?_
  · refine OkP.loop (fun n z => ∃ i : Nat, i + n = cs.length ∧ z = (i : Int)) (fun n z hz => ?_) cs.length 0 ⟨0, by omega, rfl⟩
    obtain ⟨i, hi, rfl⟩ := hz
    by_cases hlt : i < cs.length
    · have hb : decide ((i : Int) < ((List.length cs : Nat) : Int)) = true := by simp; omega
      have hci : cs[i]? = some cs[i] := List.getElem?_eq_getElem hlt
      generalize cs[i] = c at hci
      simp only [hb, cond_true, idx_nat, hci, Option.bind_some]
      refine OkP.bind (Q := fun r : Unit ⊕ Bool => r = .inl ()) ?_ fun r hr => by
        subst hr
        exact OkP.of rfl ⟨n - 1, by omega, i + 1, by omega, wrapS (by omega)⟩
      by_cases hc : c = 0
      · simp only [hc, decide_true, cond_true]
        exact OkP.of rfl rfl
      · simp only [hc, decide_false, cond_false]
        refine OkP.bind (Q := fun r : Bool ⊕ Bool => r = .inl (hasVs c (Vs L))) ?_ fun r hr => ?_
        · refine OkP.range (encs (Vs L)) (fun j s => s = hasVs c ((Vs L).take j)) (fun j x s hx hs => ?_) (fun s hs => ?_) rfl
          · rw [encs_get] at hx
            obtain ⟨v, hv, rfl⟩ := Option.map_eq_some_iff.1 hx
            have hjl : j < L.length := by rw [← Vs_length]; exact (List.getElem?_eq_some_iff.1 hv).1
            have hd := hdv hv
            have hg : (encs (Vs L))[j]? = some (enc v) := by rw [encs_get, hv]; rfl
            have hbj : decide ((j : Int) < ((List.length (encs (Vs L)) : Nat) : Int)) = true := by rw [encs_len, Vs_length]; simp; omega
            have hu : Deep 202 1000000 (bif v.isNil then .nil else .und [120] 1 v) := by
              cases v.isNil with
              | true => exact trivial
              | false => exact ⟨by omega, hd⟩
            have hin : Deep 202 1000000 (bif v.isNil then .nil else .inn 1 v) := by
              cases v.isNil with
              | true => exact trivial
              | false => exact ⟨by omega, hd⟩
            have hui : Deep 203 1000000 (bif (bif v.isNil then Vw.nil else .und [120] 1 v).isNil then .nil else .inn 1 (bif v.isNil then .nil else .und [120] 1 v)) := by
              cases (bif v.isNil then Vw.nil else .und [120] 1 v).isNil with
              | true => exact trivial
              | false => exact ⟨by omega, hu⟩
            have q1 : hasV c (bif v.isNil then .nil else .und [120] 1 v) = hasV c v := by
              cases hn : v.isNil with
              | true => cases v <;> first | rfl | cases hn
              | false => rfl
            have q2 : hasV c (bif v.isNil then .nil else .inn 1 v) = hasV c v := by
              cases hn : v.isNil with
              | true => cases v <;> first | rfl | cases hn
              | false => rfl
            have q3 : hasV c (bif (bif v.isNil then Vw.nil else .und [120] 1 v).isNil then .nil else .inn 1 (bif v.isNil then .nil else .und [120] 1 v)) = hasV c v := by
              cases hn : v.isNil with
              | true => cases v <;> first | rfl | cases hn
              | false => rfl
            have q4 : fault_New c 0 0 0 [] = some (enc (.new c 0 0 0 [])) := by rw [new_ok, if_neg hc]
            simp only [hbj, cond_true, idx_nat, hg, Option.bind_some, under_ok, in_ok, fis_ok hc hd (by omega), fis_ok hc hu (by omega), fis_ok hc hin (by omega), q1, q2, q4, eis_code hc hui (by omega) rfl, q3, ne_eq, not_true_eq_false, decide_false, Bool.not_false, cond_false]
            subst hs
            rw [hasVs_take c _ _ v hv]
            cases hasVs c ((Vs L).take j) with
            | true => exact OkP.of rfl ⟨wrapS (by omega), by simp⟩
            | false => exact OkP.of rfl ⟨wrapS (by omega), by simp⟩
          · subst hs
            simp only [Int.lt_irrefl, decide_false, cond_false]
            refine OkP.of rfl ?_
            rw [encs_len, List.take_length]
        · subst hr
          have hdj : Deep 202 201000000 (joinV (Vs L)) := deep_join (by rw [Vs_length]; omega) (deeps_all (a := 1000000) _ _ (fun w hw' => by
            obtain ⟨j, hj, rfl⟩ := List.mem_iff_getElem.1 hw'
            exact hdv (List.getElem?_eq_getElem hj)) (by rw [Vs_length]; omega))
          simp only [onSum, join_ok (Vs L) (by rw [Vs_length]; omega), Option.bind_some, fis_ok hc hdj (by omega), has_join, ne_eq, not_true_eq_false, decide_false, cond_false]
          exact OkP.of rfl rfl
    · have : i = cs.length := by omega
      subst this
      simp only [Int.lt_irrefl, decide_false, cond_false]
      exact OkP.of rfl trivial
  · cases r with
    | inl u => exact OkP.of rfl rfl
    | inr b =>
      have hr : b = true := hr
      exact OkP.of rfl hr
theorem codes_wf (x0 : List NodeD) (x1 : List Int) (h0 : Wf (.sl NodeT) x0) (_ : Wf (.sl (.int .i64)) x1) : foliolaw01_FaultCodes x0 x1 = some true := codes_law x0 x1 (nwf_of h0)
end Go.Fn
