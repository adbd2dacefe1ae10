/- From what a row says of its arguments. -/
import Derived.Test.YtlidfdmdmiidfaaDoorQAE
namespace Go.Fn
open Go Go.Lf Go.Eng Go.Proofs
abbrev NodeT : Ty := .st (.pr (.int .i64) (.pr (.st (.pr (.int .i64) (.pr (.int .i64) (.pr (.int .i64) (.pr (.int .i64) (.pr .str (.pr (.sl (.st (.pr .str (.pr (.int .i64) .unit)))) .unit))))))) (.pr .str (.pr (.int .i64) (.pr (.sl (.int .i64)) .unit)))))
theorem i64_wf {x : Int} (h : Wf (.int .i64) x) : I64 x := h
theorem node_byt : Ty.byt NodeT = 128 := by kernel_rfl
theorem int_byt : Ty.byt (.int .i64) = 8 := by kernel_rfl
theorem nwf_of {L : List NodeD} (h : Wf (.sl NodeT) L) : NWf L := by
  obtain ⟨h1, h2⟩ := h
  have h1 : L.length * Ty.byt NodeT ≤ 140737488351232 := h1
  rw [node_byt] at h1
  refine ⟨by omega, fun n hn => ?_, fun n hn => ?_, fun n hn => ?_⟩
  · obtain ⟨_, _, _, _, ⟨h3, _⟩, _⟩ := h2 n hn
    have h3 : (nKids n).length * Ty.byt (.int .i64) ≤ 140737488351232 := h3
    rw [int_byt] at h3
    omega
  · obtain ⟨_, ⟨_, _, _, _, h3, _⟩, _⟩ := h2 n hn
    have h3 : (nWord n).length ≤ 140737488351232 := h3
    omega
  · obtain ⟨_, _, h3, _⟩ := h2 n hn
    have h3 : (nLayer n).length ≤ 140737488351232 := h3
    omega
/-- numbers in bounds -/
def NI (n : NodeD) : Prop := (I64 (nCode n) ∧ I64 (nSrc n) ∧ I64 (nLine n) ∧ I64 (nCol n)) ∧ I64 (nWhat n)
theorem ni_of {L : List NodeD} (h : Wf (.sl NodeT) L) : ∀ n ∈ L, NI n := fun n hn => by
  obtain ⟨_, ⟨h1, h2, h3, h4, _⟩, _, h5, _⟩ := h.2 n hn
  exact ⟨⟨h1, h2, h3, h4⟩, h5⟩
end Go.Fn
/- Chapter 1, plainly: the document's texts. -/
namespace Go.Fn
open Go Go.Lf Go.Eng Go.Proofs
mutual
theorem Good.mono : ∀ (v : Vw) {d d' b b' : Nat}, d ≤ d' → b ≤ b' → Good d b v → Good d' b' v
  | .nil, _, _, _, _, _, _, _ => trivial
  | .new .., _, _, _, _, hd, hb, h => by obtain ⟨h1, h2, h3⟩ := h; exact ⟨by omega, h2, by omega⟩
  | .und la wh k, _, _, _, _, hd, hb, h => by obtain ⟨h1, h2, h3, h4, h5⟩ := h; exact ⟨by omega, h2, by omega, h4, Good.mono k (by omega) (by omega) h5⟩
  | .inn s k, _, _, _, _, hd, hb, h => by obtain ⟨h1, h2, h3, h4, h5⟩ := h; exact ⟨by omega, h2, by omega, h4, Good.mono k (by omega) (by omega) h5⟩
  | .join ks, _, _, _, _, hd, hb, h => by obtain ⟨h1, h2, h3⟩ := h; exact ⟨by omega, by omega, Goods.mono ks (by omega) (by omega) h3⟩
  | .plain t, _, _, _, _, hd, hb, h => by obtain ⟨h1, h2⟩ := h; exact ⟨by omega, by omega⟩
  | .wrap t _, _, _, _, _, hd, hb, h => by obtain ⟨h1, h2⟩ := h; exact ⟨by omega, by omega⟩
  | .many t _, _, _, _, _, hd, hb, h => by obtain ⟨h1, h2⟩ := h; exact ⟨by omega, by omega⟩
theorem Goods.mono : ∀ (l : List Vw) {d d' b b' : Nat}, d ≤ d' → b ≤ b' → Goods d b l → Goods d' b' l
  | [], _, _, _, _, _, _, _ => trivial
  | v :: r, _, _, _, _, hd, hb, h => by
    obtain ⟨h1, c, h2, h3, h4⟩ := h
    exact ⟨h1, c, by omega, Good.mono v hd (Nat.le_refl _) h3, Goods.mono r hd (by omega) h4⟩
end
theorem sumK_pos {f : Nat → Int} : ∀ {l : List Int}, (∀ k ∈ l, 0 ≤ f k.toNat) → 0 ≤ sumK f l
  | [], _ => by simp [sumK]
  | k :: r, h => by
    have h1 := sumK_pos (l := r) fun k hk => h k (List.mem_cons_of_mem _ hk)
    have h2 := h k List.mem_cons_self
    simp only [sumK, List.map_cons, List.sum_cons] at h1 ⊢
    omega
theorem sumK_cons (f : Nat → Int) (k : Int) (r : List Int) : sumK f (k :: r) = f k.toNat + 2 + sumK f r := by simp [sumK]
theorem goods_of {L : List NodeD} {tx : Nat → Int} {d : Nat} : ∀ (ks : List Int) (b : Nat), (∀ k ∈ ks, 0 ≤ tx k.toNat ∧ Good d (2 * (tx k.toNat).toNat) (vAt L k)) → 2 * sumK tx ks ≤ b → Goods d b ((ks.filter fun k => !(vAt L k).isNil).map (vAt L))
  | [], _, _, _ => trivial
  | k :: r, b, h, hb => by
    have h1 := h k List.mem_cons_self
    have hr := fun k hk => h k (List.mem_cons_of_mem _ hk)
    have hp := sumK_pos (f := tx) fun k hk => (hr k hk).1
    rw [sumK_cons] at hb
    cases hn : (vAt L k).isNil with
    | true =>
      rw [List.filter_cons_of_neg (by simp [hn])]
      exact goods_of r b hr (by omega)
    | false =>
      rw [List.filter_cons_of_pos (by simp [hn])]
      exact ⟨hn, 2 * (tx k.toNat).toNat, by omega, h1.2, goods_of r _ hr (by omega)⟩
theorem goodV {L : List NodeD} {tx : Nat → Int} (hL : FitL L tx) (hI : ∀ n ∈ L, NI n) : ∀ (i : Nat), i < L.length → Good (i + 1) (2 * (tx i).toNat) (vAt L (i : Int)) := by
  intro i
  induction i using Nat.strongRecOn with
  | ind i ih =>
  intro hi
  obtain ⟨n, hn⟩ : ∃ n, L[i]? = some n := ⟨L[i], List.getElem?_eq_getElem hi⟩
  have hF := hL.one i hi
  have hkid := hF.kid n hn
  have ht := hF.text n hn
  have hle := hF.le
  obtain ⟨hI1, hI2⟩ := hI n (List.mem_of_getElem? hn)
  have hk : ∀ k ∈ nKids n, 0 ≤ tx k.toNat ∧ Good i (2 * (tx k.toNat).toNat) (vAt L k) := fun k hk => by
    have h1 := hkid k hk
    have h2 := ih k.toNat (by omega) (by omega)
    have e : ((k.toNat : Nat) : Int) = k := by omega
    rw [e] at h2
    exact ⟨(hL.one k.toNat (by omega)).le.1, Good.mono _ (by omega) (Nat.le_refl _) h2⟩
  have hp := sumK_pos (f := tx) fun k h => (hk k h).1
  rw [vAt_get hL hn]
  unfold mkV
  have one : ∀ (la : Nat), (la : Int) ≤ (nLayer n).length → (firstV (kidV (Vs L) n)).isNil = false → 120 + la ≤ 2 * (tx i).toNat ∧ Good i (2 * (tx i).toNat - (120 + la)) (firstV (kidV (Vs L) n)) := fun la hla h0 => by
    refine ⟨by omega, ?_⟩
    rw [firstV_kid] at h0 ⊢
    cases hkk : nKids n with
    | nil => rw [hkk] at h0; cases h0
    | cons k r =>
      have h1 := hk k (by rw [hkk]; exact List.mem_cons_self)
      rw [hkk, sumK_cons] at ht
      have h2 := sumK_pos (f := tx) (l := r) fun k h => (hk k (by rw [hkk]; exact List.mem_cons_of_mem _ h)).1
      exact Good.mono _ (Nat.le_refl _) (by omega) h1.2
  split
  · split
    · exact trivial
    · exact ⟨by omega, hI1, by omega⟩
  split
  · cases h0 : (firstV (kidV (Vs L) n)).isNil with
    | true => exact trivial
    | false =>
      have := one (nLayer n).length (Int.le_refl _) h0
      exact ⟨by omega, hI2, this.1, h0, this.2⟩
  split
  · cases h0 : (firstV (kidV (Vs L) n)).isNil with
    | true => exact trivial
    | false =>
      have := one 0 (by omega) h0
      exact ⟨by omega, hI2, by omega, h0, this.2⟩
  split
  · unfold joinV
    rw [kidV_filter]
    have h1 := goods_of (L := L) (nKids n) (2 * (tx i).toNat - 120) hk (by omega)
    split
    · exact trivial
    · exact ⟨by omega, by omega, h1⟩
  split
  · exact ⟨by omega, by omega⟩
  split
  · exact ⟨by omega, by omega⟩
  split
  · exact ⟨by omega, by omega⟩
  · exact trivial
theorem goodAt {L : List NodeD} {tx : Nat → Int} (hL : FitL L tx) (hI : ∀ n ∈ L, NI n) {k : Int} (h0 : 0 ≤ k) (h1 : k < L.length) : Good 200 2000000 (vAt L k) := by
  have h2 := goodV hL hI k.toNat (by omega)
  have e : ((k.toNat : Nat) : Int) = k := by omega
  rw [e] at h2
  have h3 := (hL.one k.toNat (by omega)).le
  have := hL.len
  exact Good.mono _ (by omega) (by omega) h2
theorem text_le {L : List NodeD} {tx : Nat → Int} (hL : FitL L tx) (hI : ∀ n ∈ L, NI n) {k : Int} (h0 : 0 ≤ k) (h1 : k < L.length) : (vtext (vAt L k)).length ≤ 2000000 := vtext_le _ _ _ (goodAt hL hI h0 h1)
theorem layer_le {L : List NodeD} {tx : Nat → Int} (hL : FitL L tx) {i : Nat} {n : NodeD} (hn : L[i]? = some n) : (nLayer n).length ≤ 1000000 ∧ (nWord n).length ≤ 1000000 := by
  have hi := (List.getElem?_eq_some_iff.1 hn).1
  have hF := hL.one i hi
  have ht := hF.text n hn
  have hle := hF.le
  have hp := sumK_pos (f := tx) (l := nKids n) fun k h => (hL.one k.toNat (by have := hF.kid n hn k h; omega)).le.1
  omega
theorem new_text {n : NodeD} (h : NI n) (hw : (nWord n).length ≤ 1000000) : (((Go.Fn.strconv_Itoa (nCode n))).bind fun r4 =>
 ((Go.Lf.cat ((102 : UInt8) :: ((97 : UInt8) :: ((117 : UInt8) :: ((108 : UInt8) :: ((116 : UInt8) :: ((32 : UInt8) :: ([] : List (UInt8)))))))) r4)).bind fun r5 =>
 ((bif (!(decide ((nSrc n : Int) ≠ (0 : Int)))) then bif (!(decide ((nLine n : Int) ≠ (0 : Int)))) then some ((decide ((nCol n : Int) ≠ (0 : Int))), n.2.1)
     else some (true, n.2.1)
     else some (true, n.2.1)).bind fun r6 =>
   bif r6.1 then ((Go.Fn.strconv_Itoa r6.2.2.1)).bind fun r7 =>
   ((Go.Lf.cat ((32 : UInt8) :: ((97 : UInt8) :: ((116 : UInt8) :: ((32 : UInt8) :: ([] : List (UInt8)))))) r7)).bind fun r8 =>
   ((Go.Lf.cat r8 ((58 : UInt8) :: ([] : List (UInt8))))).bind fun r9 =>
   ((Go.Fn.strconv_Itoa r6.2.2.2.1)).bind fun r10 =>
   ((Go.Lf.cat r9 r10)).bind fun r11 =>
   ((Go.Lf.cat r11 ((58 : UInt8) :: ([] : List (UInt8))))).bind fun r12 =>
   ((Go.Fn.strconv_Itoa r6.2.2.2.2.1)).bind fun r13 =>
   ((Go.Lf.cat r12 r13)).bind fun r14 =>
   ((Go.Lf.cat r5 r14)).bind fun r15 =>
   some (r15, r6.2)
   else some (r5, r6.2)).bind fun r16 =>
 (bif (decide ((r16.2.2.2.2.2.1 : List (UInt8)) ≠ ([] : List (UInt8)))) then ((Go.Lf.cat ((32 : UInt8) :: ([] : List (UInt8))) r16.2.2.2.2.2.1)).bind fun r17 =>
   ((Go.Lf.cat r16.1 r17)).bind fun r18 =>
   some r18
   else some r16.1).bind fun r19 =>
 some r19) = some (errText (nCode n) (nSrc n) (nLine n) (nCol n) (nWord n)) := by
  obtain ⟨⟨h1, h2, h3, h4⟩, _⟩ := h
  have hw' : (n.2.1.2.2.2.2.1).length ≤ 1000000 := hw
  have l1 := Lib.itoa_length_le _ h1.1 h1.2
  have l2 := Lib.itoa_length_le _ h2.1 h2.2
  have l3 := Lib.itoa_length_le _ h3.1 h3.2
  have l4 := Lib.itoa_length_le _ h4.1 h4.2
  rw [itoa_eq h1]
  simp only [Option.bind_some]
  rw [cat_of (by simp; omega)]
  simp only [Option.bind_some]
  have hc : (bif (!(decide ((nSrc n : Int) ≠ (0 : Int)))) then bif (!(decide ((nLine n : Int) ≠ (0 : Int)))) then some ((decide ((nCol n : Int) ≠ (0 : Int))), n.2.1) else some (true, n.2.1) else some (true, n.2.1)) = some (decide (nSrc n ≠ 0 ∨ nLine n ≠ 0 ∨ nCol n ≠ 0), n.2.1) := by
    by_cases a : nSrc n = 0 <;> by_cases b : nLine n = 0 <;> by_cases c : nCol n = 0 <;> simp [a, b, c]
  rw [hc]
  simp only [Option.bind_some]
  rw [show strconv_Itoa n.2.1.2.1 = some (Lib.itoa (nSrc n)) from itoa_eq h2, show strconv_Itoa n.2.1.2.2.1 = some (Lib.itoa (nLine n)) from itoa_eq h3, show strconv_Itoa n.2.1.2.2.2.1 = some (Lib.itoa (nCol n)) from itoa_eq h4]
  simp only [Option.bind_some]
  rw [cat_of (by simp; omega)]
  simp only [Option.bind_some]
  rw [cat_of (by simp; omega)]
  simp only [Option.bind_some]
  rw [cat_of (by simp; omega)]
  simp only [Option.bind_some]
  rw [cat_of (by simp; omega)]
  simp only [Option.bind_some]
  rw [cat_of (by simp; omega)]
  simp only [Option.bind_some]
  rw [cat_of (by simp; omega)]
  simp only [Option.bind_some]
  unfold errText
  cases hd : decide (nSrc n ≠ 0 ∨ nLine n ≠ 0 ∨ nCol n ≠ 0) with
  | true =>
    have hd := of_decide_eq_true hd
    rw [if_pos hd]
    simp only [cond_true, Option.bind_some]
    by_cases hw0 : nWord n = []
    · have e : decide ((n.2.1.2.2.2.2.1 : List UInt8) ≠ []) = false := decide_eq_false (by simpa using hw0)
      simp only [e, cond_false, Option.bind_some]
      rw [if_neg (by simpa using hw0)]
      simp
    · have e : decide ((n.2.1.2.2.2.2.1 : List UInt8) ≠ []) = true := decide_eq_true hw0
      simp only [e, cond_true, Option.bind_some]
      rw [cat_of (by simp; omega)]
      simp only [Option.bind_some]
      rw [cat_of (by simp; omega), if_pos hw0]
      simp
  | false =>
    have hd := of_decide_eq_false hd
    rw [if_neg hd]
    simp only [cond_false, Option.bind_some]
    by_cases hw0 : nWord n = []
    · have e : decide ((n.2.1.2.2.2.2.1 : List UInt8) ≠ []) = false := decide_eq_false (by simpa using hw0)
      simp only [e, cond_false, Option.bind_some]
      rw [if_neg (by simpa using hw0)]
      simp
    · have e : decide ((n.2.1.2.2.2.2.1 : List UInt8) ≠ []) = true := decide_eq_true hw0
      simp only [e, cond_true, Option.bind_some]
      rw [cat_of (by simp; omega)]
      simp only [Option.bind_some]
      rw [cat_of (by simp; omega), if_pos hw0]
      simp
theorem itoa4 (n : Int) (h : I64 n) : (Lib.itoa n).length ≤ 21 := Lib.itoa_length_le n h.1 h.2
set_option maxHeartbeats 1000000 in
theorem textN_ok {L : List NodeD} {tx : Nat → Int} (hL : FitL L tx) (hI : ∀ n ∈ L, NI n) : ∀ (m : Nat) (k : Int), 0 ≤ k → k < L.length → OkP (m ≤ k.toNat) (folioref01_TextN m (L, k)) (· = vtext (vAt L k)) := by
  intro m
  induction m with
  | zero => exact fun k h0 h1 => .inr ⟨Nat.zero_le _, rfl⟩
  | succ m ih =>
    intro k h0 h1
    obtain ⟨i, rfl⟩ : ∃ i : Nat, k = (i : Int) := ⟨k.toNat, by omega⟩
    have hi : i < L.length := by omega
    obtain ⟨n, hn⟩ : ∃ n, L[i]? = some n := ⟨L[i], List.getElem?_eq_getElem hi⟩
    have hself : ∀ k : Int, 0 ≤ k → k < i → OkP (m + 1 ≤ i) (folioref01_TextN m (L, k)) (· = vtext (vAt L k)) := fun k h2 h3 => (ih k h2 (by omega)).imp (fun h => by omega) fun _ h => h
    have hkid := (hL.one i hi).kid n hn
    have hnum := (hL.one i hi).num n hn
    have hni := hI n (List.mem_of_getElem? hn)
    obtain ⟨hla, hwo⟩ := layer_le hL hn
    have hla' : (n.2.2.1).length ≤ 1000000 := hla
    have hkt : ∀ k ∈ nKids n, (vtext (vAt L k)).length ≤ 2000000 := fun k hk => text_le hL hI (hkid k hk).1 (by have := (hkid k hk).2; omega)
    have htot := text_le hL hI h0 h1
    show OkP (m + 1 ≤ i) (folioref01_TextB (folioref01_TextN m) L (i : Int)) _
    unfold folioref01_TextB
    rw [nil_ok hL h0 h1]
    simp only [Option.bind_some]
    cases hnil : (vAt L (i : Int)).isNil with
    | true =>
      refine OkP.of rfl ?_
      cases hv : vAt L (i : Int) <;> rw [hv] at hnil <;> first | rfl | cases hnil
    | false =>
    simp only [cond_false, idx_nat, hn, Option.bind_some, kidsR_ok hL hn]
    rw [vAt_get hL hn] at hnil htot ⊢
    unfold mkV at hnil htot ⊢
    by_cases k0 : n.1 = 0
    · simp only [k0, decide_true, cond_true, if_true] at hnil htot ⊢
      by_cases hc : nCode n = 0
      · rw [if_pos hc] at hnil; cases hnil
      · rw [if_neg hc]
        exact OkP.of (new_text hni hwo) rfl
    -- the one within
    have one : oneB n = true → noneB n = false → (firstV (kidV (Vs L) n)).isNil = false → ∃ k, kidI L n = [k] ∧ 0 ≤ k ∧ k < i ∧ firstV (kidV (Vs L) n) = vAt L k ∧ (vtext (vAt L k)).length ≤ 2000000 := fun ho hz hv => by
      rw [firstV_kid] at hv ⊢
      unfold kidI
      rw [ho, hz]
      cases hk : nKids n with
      | nil => rw [hk] at hv; cases hv
      | cons k r =>
        rw [hk] at hv
        have hv : (vAt L k).isNil = false := hv
        have hm : k ∈ nKids n := by rw [hk]; exact List.mem_cons_self
        refine ⟨k, ?_, (hkid k hm).1, (hkid k hm).2, rfl, hkt k hm⟩
        simp only [cond_false, cond_true, hv]
    by_cases k1 : n.1 = 1
    · simp only [k1, decide_false, decide_true, cond_true, if_true, show decide ((1 : Int) = 0) = false from rfl, show ((1 : Int) = 0) = False from by simp, cond_false, if_false] at hnil htot ⊢
      cases hv : (firstV (kidV (Vs L) n)).isNil with
      | true => rw [hv] at hnil; cases hnil
      | false =>
      obtain ⟨k, e1, e2, e3, e4, e5⟩ := one (by simp [oneB, k1]) (by simp [noneB, k1]) hv
      have l1 := itoa4 _ hni.2
      rw [e1, e4, cat_of (by simp; omega)]
      simp only [Option.bind_some, show strconv_Itoa n.2.2.2.1 = some (Lib.itoa (nWhat n)) from itoa_eq hni.2]
      rw [cat_of (by simp; omega)]
      simp only [Option.bind_some]
      rw [cat_of (by simp; omega)]
      simp only [Option.bind_some, show idx [k] (0 : Int) = some k from rfl]
      refine OkP.bind (hself k e2 e3) fun t ht => ?_
      subst ht
      rw [cat_of (by simp; omega)]
      refine OkP.of rfl ?_
      simp [vtext]
    by_cases k2 : n.1 = 2
    · simp only [k2, decide_false, decide_true, cond_true, if_true, show decide ((2 : Int) = 0) = false from rfl, show decide ((2 : Int) = 1) = false from rfl, show ((2 : Int) = 0) = False from by simp, show ((2 : Int) = 1) = False from by simp, cond_false, if_false] at hnil htot ⊢
      cases hv : (firstV (kidV (Vs L) n)).isNil with
      | true => rw [hv] at hnil; cases hnil
      | false =>
      obtain ⟨k, e1, e2, e3, e4, e5⟩ := one (by simp [oneB, k2]) (by simp [noneB, k2]) hv
      have l1 := itoa4 _ hni.2
      simp only [Option.bind_some, show strconv_Itoa n.2.2.2.1 = some (Lib.itoa (nWhat n)) from itoa_eq hni.2]
      rw [e1, e4, cat_of (by simp; omega)]
      simp only [Option.bind_some]
      rw [cat_of (by simp; omega)]
      simp only [Option.bind_some, show idx [k] (0 : Int) = some k from rfl]
      refine OkP.bind (hself k e2 e3) fun t ht => ?_
      subst ht
      rw [cat_of (by simp; omega)]
      refine OkP.of rfl ?_
      simp [vtext]
    by_cases k3 : n.1 = 3
    · simp only [k3, decide_false, decide_true, cond_true, if_true, show decide ((3 : Int) = 0) = false from rfl, show decide ((3 : Int) = 1) = false from rfl, show decide ((3 : Int) = 2) = false from rfl, show ((3 : Int) = 0) = False from by simp, show ((3 : Int) = 1) = False from by simp, show ((3 : Int) = 2) = False from by simp, cond_false, if_false] at hnil htot ⊢
      have hkI : kidI L n = (nKids n).filter fun k => !(vAt L k).isNil := by
        unfold kidI
        simp [noneB, oneB, k3]
      rw [hkI]
      unfold joinV at hnil htot ⊢
      rw [kidV_filter] at hnil htot ⊢
      have hsub : ∀ k ∈ (nKids n).filter fun k => !(vAt L k).isNil, k ∈ nKids n := fun k hk => (List.mem_filter.1 hk).1
      have hfl : ((nKids n).filter fun k => !(vAt L k).isNil).length ≤ 20000 := Nat.le_trans (List.length_filter_le _ _) hnum
      revert hnil htot hsub hfl
      generalize (nKids n).filter (fun k => !(vAt L k).isNil) = ks
      intro hnil htot hsub hfl
      cases ks with
      | nil => cases hnil
      | cons k0 r =>
      have hk0 := hkid k0 (hsub k0 List.mem_cons_self)
      have ht0 := hkt k0 (hsub k0 List.mem_cons_self)
      simp only [show idx (k0 :: r) (0 : Int) = some k0 from rfl, Option.bind_some]
      have htot : (joinL [59, 32] (vtexts ((k0 :: r).map (vAt L)))).length ≤ 2000000 := htot
      refine OkP.bind (hself k0 hk0.1 hk0.2) fun t ht => ?_
      subst ht
      have hsb : sub (k0 :: r) (1 : Int) (((List.length (k0 :: r)) : Nat) : Int) = some r := by
        have := sub_nat (l := k0 :: r) (a := 1) (b := (k0 :: r).length) (by simp) (Nat.le_refl _)
        refine this.trans ?_
        simp
      rw [hsb]
      simp only [Option.bind_some]
      have htx : ∀ j, vtexts ((r.take j).map (vAt L)) = (vtexts (r.map (vAt L))).take j := fun j => by rw [vtexts_map, vtexts_map, List.map_take, List.map_take]
      refine OkP.bind (Q := fun x => x = joinL [59, 32] (vtexts ((k0 :: r).map (vAt L)))) ?_ fun x hx => OkP.of rfl hx
      refine OkP.range r (fun j s => s = vtext (vAt L k0) ++ joinT [59, 32] ((vtexts (r.map (vAt L))).take j)) (fun j k s hj hs => ?_) (fun s hs => ?_) (by simp [joinT])
      · subst hs
        have hjl := (List.getElem?_eq_some_iff.1 hj).1
        have hkr := List.mem_of_getElem? hj
        have hkk := hkid k (hsub k (List.mem_cons_of_mem _ hkr))
        have htk := hkt k (hsub k (List.mem_cons_of_mem _ hkr))
        have hb : decide ((j : Int) < ((List.length r : Nat) : Int)) = true := by simp; omega
        have hlj := joinT_le [59, 32] (vtexts (r.map (vAt L))) j
        have hl2 : (joinT [59, 32] (vtexts (r.map (vAt L)))).length ≤ 2000000 := by
          have e : vtexts ((k0 :: r).map (vAt L)) = vtext (vAt L k0) :: vtexts (r.map (vAt L)) := rfl
          rw [e] at htot
          simp only [joinL, List.length_append] at htot
          omega
        have hgj : (vtexts (r.map (vAt L)))[j]? = some (vtext (vAt L k)) := by rw [vtexts_map, List.getElem?_map, List.getElem?_map, hj]; rfl
        have hrl : r.length ≤ 20000 := by simp only [List.length_cons] at hfl; omega
        simp only [hb, cond_true, idx_nat, hj, Option.bind_some]
        refine OkP.bind (hself k hkk.1 hkk.2) fun t ht => ?_
        subst ht
        rw [cat_of (by simp; omega)]
        simp only [Option.bind_some]
        rw [cat_of (by simp; omega)]
        refine OkP.of rfl ⟨wrapS (by omega), ?_⟩
        rw [joinT_take _ _ j _ hgj]
        simp
      · subst hs
        simp only [Int.lt_irrefl, decide_false, cond_false]
        refine OkP.of rfl ?_
        have e : (vtexts (r.map (vAt L))).take r.length = vtexts (r.map (vAt L)) := List.take_of_length_le (by rw [vtexts_map, List.length_map, List.length_map]; exact Nat.le_refl _)
        rw [e]
        rfl
    simp only [k0, k1, k2, k3, decide_false, cond_false, if_false] at hnil ⊢
    refine OkP.of rfl ?_
    split
    · rfl
    split
    · rfl
    split
    · rfl
    · rename_i a b c
      rw [if_neg a, if_neg b, if_neg c] at hnil
      cases hnil
theorem textR_ok {L : List NodeD} {tx : Nat → Int} (hL : FitL L tx) (hI : ∀ n ∈ L, NI n) {k : Int} (h0 : 0 ≤ k) (h1 : k < L.length) : folioref01_Text L k = some (vtext (vAt L k)) := supC_ok k.toNat fun m => textN_ok hL hI m k h0 h1
theorem textP_ok {d b : Nat} {v : Vw} (h : Good d b v) (hd : d ≤ 400) (hb : b ≤ 1099511627776) : fault_Text (enc v) = some (vtext v) := by
  unfold fault_Text
  rw [enc_nil]
  cases hn : v.isNil with
  | true => cases v <;> first | rfl | cases hn
  | false =>
    have := errN_enc 400 d b v h hn hd hb
    show (mError (enc v)).bind _ = _
    rw [show mError (enc v) = some (vtext v) from this]
    rfl
end Go.Fn
/- FaultTexts, plainly: the law holds of every list. -/
namespace Go.Fn
open Go Go.Lf Go.Eng Go.Proofs
theorem und_text {m : Nat} {la : List UInt8} {wh : Int} {k : Vw} (hk : errN m (enc k) = some (vtext k)) (hw : I64 wh) (hl : la.length ≤ 140737488355328) (ht : (vtext k).length ≤ 1099511627776) : errN (m + 1) (enc (.und la wh k)) = some (vtext (.und la wh k)) := by
  unfold errN
  rw [iv_und]
  unfold fault_under__ErrorP
  have h6 := itoa4 wh hw
  rw [cat_of (by simp; omega)]
  simp only [Option.bind_some, itoa_eq hw]
  rw [cat_of (by simp; omega)]
  simp only [Option.bind_some]
  rw [cat_of (by simp; omega)]
  simp only [Option.bind_some, hk]
  rw [cat_of (by simp; omega)]
  simp [vtext]
theorem inn_text {m : Nat} {s : Int} {k : Vw} (hk : errN m (enc k) = some (vtext k)) (hw : I64 s) (ht : (vtext k).length ≤ 1099511627776) : errN (m + 1) (enc (.inn s k)) = some (vtext (.inn s k)) := by
  unfold errN
  rw [iv_inn]
  unfold fault_in__ErrorP
  have h6 := itoa4 s hw
  simp only [Option.bind_some, itoa_eq hw]
  rw [cat_of (by simp; omega)]
  simp only [Option.bind_some]
  rw [cat_of (by simp; omega)]
  simp only [Option.bind_some, hk]
  rw [cat_of (by simp; omega)]
  simp [vtext]
theorem textQ {v : Vw} (hn : v.isNil = false) (h : errN 400 (enc v) = some (vtext v)) : fault_Text (enc v) = some (vtext v) := by
  unfold fault_Text
  rw [enc_nil, hn]
  show (mError (enc v)).bind _ = _
  rw [show mError (enc v) = some (vtext v) from h]
  rfl
theorem joinT_snoc (sep : List UInt8) : ∀ (xs : List (List UInt8)) (t : List UInt8), joinT sep (xs ++ [t]) = joinT sep xs ++ sep ++ t
  | [], t => by simp [joinT]
  | x :: r, t => by simp [joinT, joinT_snoc sep r t]
theorem joinL_snoc (sep : List UInt8) (xs : List (List UInt8)) (t : List UInt8) : joinL sep (xs ++ [t]) = match xs with | [] => t | _ :: _ => joinL sep xs ++ sep ++ t := by
  cases xs with
  | nil => simp [joinL, joinT]
  | cons x r => simp [joinL, joinT_snoc]
theorem goods_list {d c : Nat} : ∀ (l : List Vw) (b : Nat), (∀ v ∈ l, v.isNil = false ∧ Good d c v) → l.length * (c + 2) ≤ b → Goods d b l
  | [], _, _, _ => trivial
  | v :: r, b, h, hb => by
    rw [List.length_cons, Nat.add_mul, Nat.one_mul] at hb
    exact ⟨(h v List.mem_cons_self).1, c, by omega, (h v List.mem_cons_self).2, goods_list r _ (fun v hv => h v (List.mem_cons_of_mem _ hv)) (by omega)⟩
theorem joinV_text {vs : List Vw} (h : ∀ v ∈ vs, Good 200 2000000 v) (hl : vs.length ≤ 20) : fault_Text (enc (joinV vs)) = some (vtext (joinV vs)) := by
  refine textP_ok (d := 201) (b := 120 + 20 * 2000002) ?_ (by omega) (by omega)
  unfold joinV
  split
  · exact trivial
  · refine ⟨by omega, by omega, goods_list _ _ (c := 2000000) (fun v hv => ?_) ?_⟩
    · obtain ⟨h1, h2⟩ := List.mem_filter.1 hv
      exact ⟨by simpa using h2, h v h1⟩
    · have := List.length_filter_le (fun v : Vw => !v.isNil) vs
      omega
theorem joinV_vtext (vs : List Vw) : vtext (joinV vs) = joinL [59, 32] (vtexts (vs.filter fun v => !v.isNil)) := by
  unfold joinV
  split
  · rename_i h
    rw [h]
    rfl
  · rfl
theorem vAt_nat {L : List NodeD} {i : Nat} (h : i < L.length) : (Vs L)[i]? = some (vAt L (i : Int)) := by
  have hl : i < (Vs L).length := by rw [Vs_length]; exact h
  show _ = some ((Vs L).getD i .nil)
  rw [List.getD_eq_getElem?_getD, List.getElem?_eq_getElem hl]
  rfl
theorem good_mem {L : List NodeD} {tx : Nat → Int} (hL : FitL L tx) (hI : ∀ n ∈ L, NI n) {v : Vw} (h : v ∈ Vs L) : Good 200 2000000 v := by
  obtain ⟨i, hi, rfl⟩ := List.mem_iff_getElem.1 h
  have hl : i < L.length := by rw [← Vs_length]; exact hi
  have e := vAt_nat hl
  rw [List.getElem?_eq_getElem hi] at e
  injection e with e
  rw [e]
  exact goodAt hL hI (by omega) (by omega)
/-- the texts so far -/
def soFar (L : List NodeD) (i : Nat) : List (List UInt8) := vtexts (((Vs L).take i).filter fun v => !v.isNil)
theorem soFar_nil {L : List NodeD} {i : Nat} {v : Vw} (h : (Vs L)[i]? = some v) (hn : v.isNil = true) : soFar L (i + 1) = soFar L i := by
  unfold soFar
  rw [List.take_add_one, h, List.filter_append]
  simp [hn]
theorem soFar_some {L : List NodeD} {i : Nat} {v : Vw} (h : (Vs L)[i]? = some v) (hn : v.isNil = false) : soFar L (i + 1) = soFar L i ++ [vtext v] := by
  unfold soFar
  rw [List.take_add_one, h, List.filter_append, vtexts_map, vtexts_map]
  simp [hn]
set_option maxHeartbeats 1000000 in
theorem texts_law (L : List NodeD) (la : List UInt8) (wh so : Int) (hw : NWf L) (hI : ∀ n ∈ L, NI n) (hl : la.length ≤ 140737488355328) (hwh : I64 wh) (hso : I64 so) : foliolaw01_FaultTexts L la wh so = some true := by
  unfold foliolaw01_FaultTexts
  rw [awake]
  simp only [Option.bind_some, Bool.not_true, cond_false]
  refine OkP.eq ?_
  refine OkP.bind (fits_ok L hw) fun b hb => ?_
  cases b with
  | false => exact OkP.of rfl rfl
  | true =>
  obtain ⟨h200, tx, hone⟩ := hb rfl
  have hL : FitL L tx := ⟨h200, hone⟩
  simp only [Bool.not_true, cond_false, made_ok L h200 hone, Option.bind_some]
  refine OkP.bind (Q := fun r => match r with | .inl _ => True | .inr b => b = true) ?_ fun r hr => ?_
  · refine OkP.range (encs (Vs L)) (fun i s => i ≤ 20 → s = joinL [59, 32] (soFar L i) ∧ ∀ t ∈ soFar L i, t ≠ []) (fun i x s hx hs => ?_) (fun s hs => ?_) (fun _ => ⟨rfl, fun t ht => by cases ht⟩)
    · have hxv := hx
      rw [encs_get] at hxv
      obtain ⟨v, hv, rfl⟩ := Option.map_eq_some_iff.1 hxv
      have hlt : i < L.length := by rw [← Vs_length]; exact (List.getElem?_eq_some_iff.1 hv).1
      have hva : v = vAt L (i : Int) := by
        have := hv.symm.trans (vAt_nat hlt)
        injection this
      have hg : Good 200 2000000 v := good_mem hL hI (List.mem_of_getElem? hv)
      have hte := textP_ok hg (by omega) (by omega)
      have htl := vtext_le _ _ _ hg
      have hb : decide ((i : Int) < ((List.length (encs (Vs L)) : Nat) : Int)) = true := by rw [encs_len, Vs_length]; simp; omega
      simp only [hb, cond_true, idx_nat, hx, Option.bind_some, hte, nil_ok hL (by omega : (0 : Int) ≤ (i : Int)) (by omega), ← hva]
      cases hn : v.isNil with
      | true =>
        have ht0 : vtext v = [] := by cases v <;> first | rfl | cases hn
        simp only [cond_true, ht0, ne_eq, not_true_eq_false, decide_false, cond_false, Option.bind_some, onSum]
        refine OkP.of rfl ⟨wrapS (by omega), fun h20 => ?_⟩
        rw [soFar_nil hv hn]
        exact hs (by omega)
      | false =>
        have hun : fault_Text (enc (.und la wh v)) = some (vtext (.und la wh v)) := textQ rfl (und_text (errN_enc 399 200 2000000 v hg hn (by omega) (by omega)) hwh hl (by omega))
        have hin : fault_Text (enc (.inn so v)) = some (vtext (.inn so v)) := textQ rfl (inn_text (errN_enc 399 200 2000000 v hg hn (by omega) (by omega)) hso (by omega))
        have l1 := itoa4 wh hwh
        have l2 := itoa4 so hso
        simp only [cond_false, textR_ok hL hI (by omega : (0 : Int) ≤ (i : Int)) (by omega), ← hva, Option.bind_some, ne_eq, not_true_eq_false, decide_false, Bool.not_false, cond_true, under_ok, in_ok, hn, hun, hin, itoa_eq hwh, itoa_eq hso]
        rw [cat_of (by simp; omega)]
        simp only [Option.bind_some]
        rw [cat_of (by simp; omega)]
        simp only [Option.bind_some]
        rw [cat_of (by simp; omega)]
        simp only [Option.bind_some]
        rw [cat_of (by simp; omega)]
        simp only [Option.bind_some]
        rw [cat_of (by simp; omega)]
        simp only [Option.bind_some]
        rw [cat_of (by simp; omega)]
        simp only [Option.bind_some]
        rw [cat_of (by simp; omega)]
        simp only [Option.bind_some]
        have q1 : (¬ vtext (.und la wh v) = la ++ [32] ++ Lib.itoa wh ++ [58, 32] ++ vtext v) = False := by simp [vtext]
        have q2 : (¬ vtext (.inn so v) = [105, 110, 32] ++ Lib.itoa so ++ [58, 32] ++ vtext v) = False := by simp [vtext]
        simp only [q1, q2, decide_false, Bool.not_false, cond_true, cond_false, Option.bind_some]
        by_cases h20 : (i : Int) < 20
        · obtain ⟨hs1, hs2⟩ := hs (by omega)
          have hsl : s.length ≤ 100000000 := by
            have hgj := goods_list (d := 200) (c := 2000000) (((Vs L).take i).filter fun v => !v.isNil) (20 * 2000002) (fun v hv => by
              obtain ⟨a, b⟩ := List.mem_filter.1 hv
              exact ⟨by simpa using b, good_mem hL hI (List.mem_of_mem_take a)⟩) (by
              have a := List.length_filter_le (fun v : Vw => !v.isNil) ((Vs L).take i)
              have b : ((Vs L).take i).length ≤ i := by rw [List.length_take]; omega
              have c : (((Vs L).take i).filter fun v => !v.isNil).length ≤ 20 := by omega
              exact Nat.mul_le_mul c (Nat.le_refl _))
            have hjl := (vtexts_le 200 _ _ hgj).1
            have hjj : s.length ≤ (joinT [59, 32] (soFar L i)).length := by
              rw [hs1]
              cases soFar L i with
              | nil => simp [joinL]
              | cons x r => simp only [joinL, joinT, List.length_append]; omega
            have : (joinT [59, 32] (soFar L i)).length ≤ 20 * 2000002 := hjl
            omega
          have hjv : OkP False (bif (decide (¬ s = [])) then (cat s [59, 32]).bind fun r23 => some r23 else some s) (· = match soFar L i with | [] => [] | _ :: _ => s ++ [59, 32]) := by
            cases hq : soFar L i with
            | nil =>
              have : s = [] := by rw [hs1, hq]; rfl
              subst this
              exact OkP.of rfl rfl
            | cons x r =>
              have hx0 : x ≠ [] := hs2 x (by rw [hq]; exact List.mem_cons_self)
              have : s ≠ [] := by
                rw [hs1, hq]
                intro h0
                exact hx0 (List.append_eq_nil_iff.1 h0).1
              have e : decide (¬ s = []) = true := decide_eq_true this
              rw [e, cond_true, cat_of (by simp; omega)]
              exact OkP.of rfl rfl
          simp only [h20, decide_true, cond_true]
          refine OkP.bind (Q := fun d => match d with | .inl b => b = true | .inr s' => s' = joinL [59, 32] (soFar L (i + 1)) ∧ ∀ t ∈ soFar L (i + 1), t ≠ []) ?_ fun d hd => ?_
          · refine OkP.bind hjv fun r24 h24 => ?_
            subst h24
            have hcat : OkP False (cat (match soFar L i with | [] => [] | _ :: _ => s ++ [59, 32]) (vtext v)) (· = joinL [59, 32] (soFar L (i + 1))) := by
              rw [soFar_some hv hn, joinL_snoc]
              cases hq : soFar L i with
              | nil => rw [cat_of (by simp; omega)]; exact OkP.of rfl rfl
              | cons x r =>
                rw [cat_of (by simp; omega)]
                refine OkP.of rfl ?_
                show s ++ [59, 32] ++ vtext v = joinL [59, 32] (x :: r) ++ [59, 32] ++ vtext v
                rw [hs1, hq]
            refine OkP.bind hcat fun r25 h25 => ?_
            subst h25
            by_cases ht : vtext v = []
            · simp only [ht, decide_true, cond_true]
              exact OkP.of rfl rfl
            · simp only [ht, decide_false, cond_false]
              have e1 : IntKind.wrap .i64 ((i : Int) + (1 : Int)) = ((i + 1 : Nat) : Int) := wrapS (by omega)
              have e2 : sub (encs (Vs L)) (0 : Int) ((i + 1 : Nat) : Int) = some (encs ((Vs L).take (i + 1))) := by
                have := sub_nat (l := encs (Vs L)) (a := 0) (b := i + 1) (by omega) (by rw [encs_len, Vs_length]; omega)
                refine this.trans ?_
                rw [List.drop_zero, Nat.sub_zero, encs_map, encs_map, List.map_take]
              have hj := join_ok ((Vs L).take (i + 1)) (by rw [List.length_take]; omega)
              have hjt := joinV_text (vs := (Vs L).take (i + 1)) (fun v hv => good_mem hL hI (List.mem_of_mem_take hv)) (by rw [List.length_take]; omega)
              have hjx : vtext (joinV ((Vs L).take (i + 1))) = joinL [59, 32] (soFar L (i + 1)) := joinV_vtext _
              rw [e1, e2]
              simp only [Option.bind_some, hj, hjt, hjx, not_true_eq_false, decide_false, cond_false]
              refine OkP.of rfl ⟨rfl, fun t h => ?_⟩
              rw [soFar_some hv hn] at h
              rcases List.mem_append.1 h with h | h
              · exact hs2 t h
              · have : t = vtext v := by simpa using h
                rw [this]
                exact ht
          · cases d with
            | inl b =>
              have hd : b = true := hd
              exact OkP.of rfl hd
            | inr s' => exact OkP.of rfl ⟨wrapS (by omega), fun _ => hd⟩
        · simp only [h20, decide_false, cond_false, Option.bind_some, onSum]
          exact OkP.of rfl ⟨wrapS (by omega), fun h => absurd h (by omega)⟩
    · simp only [Int.lt_irrefl, decide_false, cond_false]
      exact OkP.of rfl trivial
  · cases r with
    | inl u => exact OkP.of rfl rfl
    | inr b =>
      have hr : b = true := hr
      exact OkP.of rfl hr
theorem texts_wf (x0 : List NodeD) (x1 : List UInt8) (x2 x3 : Int) (h0 : Wf (.sl NodeT) x0) (h1 : Wf .str x1) (h2 : Wf (.int .i64) x2) (h3 : Wf (.int .i64) x3) : foliolaw01_FaultTexts x0 x1 x2 x3 = some true := by
  have h1 : x1.length ≤ 140737488351232 := h1
  exact texts_law x0 x1 x2 x3 (nwf_of h0) (ni_of h0) (by omega) (i64_wf h2) (i64_wf h3)
end Go.Fn
