/- Plain facts: operations that may be. -/
import Derived.Test.YtpaecijilnfkhaaDoorPn
import Derived.Test.YtpaecijilnfkhaaDoorPq
import Derived.Test.YtpaecijilnfkhaaDoorPm

namespace Go.Proofs.YtpaecijilnfkhaaDoor
open Go Go.Eng Go.RowKit

/-! operations that may be -/
def fieldsS (o : OpS) (sty tp : Int) : Bool :=
  if (o.kind ≠ 1 ∧ o.text ≠ []) ∨ (o.kind ≠ 12 ∧ 0 < o.widths.length) then false
  else if o.kind = 1 then ((plainS o.text).2 && decide (o.text ≠ []) && decide (o.n = 0))
  else if o.kind = 2 then decide (0 ≤ o.n ∧ o.n < sty)
  else if o.kind = 3 ∨ o.kind = 4 then decide (0 ≤ o.n ∧ o.n < tp)
  else if o.kind = 8 then decide (-1 ≤ o.n ∧ o.n < sty)
  else if o.kind = 10 then decide (o.n = 0 ∨ o.n = 1)
  else if o.kind = 12 then (decide (o.n = 0 ∧ 1 ≤ o.widths.length ∧ o.widths.length ≤ 8) && o.widths.all fun x => decide (0 ≤ x ∧ x ≤ 100))
  else decide (5 ≤ o.kind ∧ o.kind ≤ 14 ∧ o.n = 0)
def chkGo (sty tp : Int) : List OpS → MachS → Bool
  | [], m => m.done
  | o :: r, m => fieldsS o sty tp && (machStep m o.kind o.widths.length).1 && chkGo sty tp r (machStep m o.kind o.widths.length).2
def textsT (l : List OpS) : Nat := (l.flatMap (·.text)).length
def mach0 : MachS := ⟨false, [], [], false⟩
def chk11 (l : List OpS) (sty tp : Int) : Bool := decide (l.length ≤ 65536 ∧ textsT l ≤ 16384) && chkGo sty tp l mach0
structure InstrX (i : InstrS) : Prop where
  n1 : i.kind = 1 → 1 ≤ i.n
  n2 : i.kind = 2 ∨ i.kind = 3 ∨ i.kind = 4 ∨ i.kind = 10 → 0 ≤ i.n
  n8 : i.kind = 8 → -1 ≤ i.n
  n12 : i.kind = 12 → i.n = 0 ∧ 1 ≤ i.widths.length
  n0 : ¬ (i.kind = 1 ∨ i.kind = 2 ∨ i.kind = 3 ∨ i.kind = 4 ∨ i.kind = 8 ∨ i.kind = 10 ∨ i.kind = 12) → i.n = 0
  w0 : i.kind ≠ 12 → i.widths = []
  k : 1 ≤ i.kind ∧ i.kind ≤ 15
  w : ∀ x ∈ i.widths, 0 ≤ x
theorem fin_X {b : List UInt8} {at_ long kind n : Int} (hk : 1 ≤ kind ∧ kind ≤ 15) (hn : 0 ≤ n) (hl : 0 ≤ at_ + long ∧ at_ + long ≤ b.length) (h : (finS b at_ long kind n).2 = 0) : InstrX (finS b at_ long kind n).1 := by
  by_cases k1 : kind = 1
  · by_cases h2 : 16383 < n
    · rw [fin_textE k1 h2] at h; simp at h
    · rw [fin_text k1 h2]
      exact ⟨fun _ => by dsimp only; omega, fun hh => by dsimp only at *; omega, fun hh => by dsimp only at *; omega, fun hh => by dsimp only at *; omega, fun hh => by dsimp only at *; omega, fun _ => rfl, hk, by simp⟩
  · by_cases k2 : kind = 2 ∨ kind = 3 ∨ kind = 4 ∨ kind = 10
    · rw [fin_num k2]
      exact ⟨fun hh => absurd hh k1, fun _ => hn, fun hh => by dsimp only at *; omega, fun hh => by dsimp only at *; omega, fun hh => by dsimp only at *; omega, fun _ => rfl, hk, by simp⟩
    · by_cases k3 : kind = 8
      · rw [fin_para k3]
        exact ⟨fun hh => absurd hh k1, fun hh => absurd hh k2, fun _ => by dsimp only; omega, fun hh => by dsimp only at *; omega, fun hh => by dsimp only at *; omega, fun _ => rfl, hk, by simp⟩
      · by_cases k4 : kind = 12
        · by_cases h2 : 16 ≤ n
          · rw [fin_tabE k4 h2] at h; simp at h
          · by_cases h3 : (b.length : Int) - (at_ + long) < n + 1
            · rw [fin_tabT k4 h2 h3] at h; simp at h
            · rw [fin_tab k4 h2 h3]
              exact ⟨fun hh => absurd hh k1, fun hh => absurd hh k2, fun hh => absurd hh k3, fun _ => ⟨rfl, by dsimp only; rw [ints_length, List.length_take, List.length_drop]; omega⟩, fun hh => (hh (.inr (.inr (.inr (.inr (.inr (.inr k4))))))).elim, fun hh => absurd k4 hh, hk, fun x hx => (ints_bd hx).1⟩
        · by_cases h2 : n ≠ 0
          · rw [fin_nE (by omega) h2] at h; simp at h
          · rw [fin_n0 (by omega) (by omega)]
            exact ⟨fun hh => absurd hh k1, fun hh => absurd hh k2, fun hh => absurd hh k3, fun hh => absurd hh k4, fun _ => rfl, fun _ => rfl, hk, by simp⟩
theorem next_X {b : List UInt8} {k : Nat} (h : (nextS b (k : Int)).2 = 0) : InstrX (nextS b (k : Int)).1 := by
  by_cases hk : k < b.length
  · obtain ⟨x, hx⟩ : ∃ x, b[k]? = some x := ⟨_, List.getElem?_eq_getElem hk⟩
    have hnb := numL_bd (b.drop (k + 1))
    rw [List.length_drop] at hnb
    have hxb : x.toNat < 256 := x.toNat_lt
    by_cases h1 : x.toNat / 16 = 0
    · rw [next_op0 hx h1] at h; simp at h
    · by_cases h2 : x.toNat % 16 = 15
      · by_cases h3 : numE (b.drop (k + 1)) ≠ 0
        · rw [next_err hx h1 h2 h3] at h; exact absurd h h3
        · by_cases h4 : 2147483632 < numV (b.drop (k + 1))
          · rw [next_big hx h1 h2 h3 h4] at h; simp at h
          · rw [next_long hx h1 h2 h3 h4] at h ⊢
            exact fin_X (by omega) (by omega) (by omega) h
      · rw [next_short hx h1 h2] at h ⊢
        exact fin_X (by omega) (by omega) (by omega) h
  · rw [next_rng (by omega)] at h; simp at h
theorem instrsF_X : ∀ (f : Nat) (b : List UInt8) (k : Nat), (∀ i ∈ (instrsF f b k).1, InstrX i) ∧ ((instrsF f b k).2.2 = 0 → ∀ (j : Nat) i, (instrsF f b k).1[j]? = some i → (i.kind = 15 ↔ j + 1 = (instrsF f b k).1.length))
  | 0, b, k => ⟨fun i hi => absurd hi (by simp [instrsF]), fun h => absurd (show (162 : Int) = 0 from h) (by decide)⟩
  | f + 1, b, k => by
    unfold instrsF
    split
    · split
      · rename_i he
        exact ⟨fun i hi => absurd hi (by simp), fun h => absurd h he⟩
      · rename_i he
        have hg := next_X (b := b) (k := k) (by simpa using he)
        split
        · rename_i h15
          split
          · exact ⟨fun i hi => absurd hi (by simp), fun h => absurd (show (162 : Int) = 0 from h) (by decide)⟩
          · refine ⟨fun i hi => by rw [List.mem_singleton.1 hi]; exact hg, fun _ j i hj => ?_⟩
            cases j with
            | zero => simp at hj; subst hj; simp [h15]
            | succ j => simp at hj
        · rename_i h15
          have ih := instrsF_X f b (k + (nextS b (k : Int)).1.long.toNat)
          unfold ahead
          split
          · rename_i h0
            refine ⟨fun i hi => by rcases List.mem_cons.1 hi with rfl | hi; exact hg; exact ih.1 i hi, fun _ j i hj => ?_⟩
            cases j with
            | zero =>
              simp at hj; subst hj
              obtain ⟨a, i', h1, h2⟩ := instrsF_last f b _ h0
              simp [h15, h1]
            | succ j =>
              have := ih.2 h0 j i (by simpa using hj)
              simp only [List.length_cons]
              omega
          · rename_i h0
            exact ⟨ih.1, fun h => absurd h h0⟩
    · exact ⟨fun i hi => absurd hi (by simp), fun h => absurd (show (162 : Int) = 0 from h) (by decide)⟩
theorem instrs_X (b : List UInt8) : (∀ i ∈ (instrsS b).1, InstrX i) ∧ ((instrsS b).2.2 = 0 → ∀ (j : Nat) i, (instrsS b).1[j]? = some i → (i.kind = 15 ↔ j + 1 = (instrsS b).1.length)) := by
  unfold instrsS
  split
  · exact ⟨fun i hi => absurd hi (by simp), fun h => absurd (show (2 : Int) = 0 from h) (by decide)⟩
  · exact instrsF_X _ _ _
theorem all_and {l : List Int} (h : ∀ x ∈ l, 0 ≤ x) : (l.all fun x => decide (0 ≤ x ∧ x ≤ 100)) = l.all fun x => decide (x ≤ 100) := by
  rw [Bool.eq_iff_iff, List.all_eq_true, List.all_eq_true]
  exact ⟨fun hh x hx => by have := hh x hx; simp at this ⊢; exact this.2, fun hh x hx => by have := hh x hx; have := h x hx; simp at *; omega⟩
theorem fields_else {i : InstrS} {sty tp : Int} (X : InstrX i) (h1 : ¬ i.kind = 1) (h15 : ¬ i.kind = 15) : fieldsS ⟨i.kind, i.n, [], i.widths⟩ sty tp = operandS i.kind i.n i.widths sty tp := by
  have hk := X.k
  unfold fieldsS operandS
  dsimp only
  rw [if_neg (by rintro (⟨_, h⟩ | ⟨h, h'⟩); exact h rfl; rw [X.w0 h] at h'; simp at h'), if_neg h1]
  by_cases h2 : i.kind = 2
  · have := X.n2 (by omega)
    rw [if_pos h2, if_pos (.inl h2)]
    exact decide_eq_decide.2 (by omega)
  · rw [if_neg h2]
    by_cases h34 : i.kind = 3 ∨ i.kind = 4
    · have := X.n2 (by omega)
      rw [if_pos h34, if_neg (show ¬ (i.kind = 2 ∨ i.kind = 8) by omega), if_pos h34]
      exact decide_eq_decide.2 (by omega)
    · rw [if_neg h34]
      by_cases h8 : i.kind = 8
      · have := X.n8 h8
        rw [if_pos h8, if_pos (.inr h8)]
        exact decide_eq_decide.2 (by omega)
      · rw [if_neg h8, if_neg (show ¬ (i.kind = 2 ∨ i.kind = 8) by omega), if_neg h34]
        by_cases h10 : i.kind = 10
        · have := X.n2 (by omega)
          rw [if_pos h10, if_pos h10]
          exact decide_eq_decide.2 (by omega)
        · rw [if_neg h10, if_neg h10]
          by_cases h12 : i.kind = 12
          · obtain ⟨a, c⟩ := X.n12 h12
            rw [if_pos h12, if_pos h12, all_and X.w, Bool.and_comm]
            congr 1
            exact decide_eq_decide.2 (by omega)
          · rw [if_neg h12, if_neg h12]
            have := X.n0 (by omega)
            exact decide_eq_true (by omega)
theorem fields_1 {t : List UInt8} {sty tp : Int} (ht : t ≠ []) : fieldsS ⟨1, 0, t, []⟩ sty tp = (plainS t).2 := by
  unfold fieldsS
  dsimp only
  rw [if_neg (by rintro (⟨h, _⟩ | ⟨_, h⟩); exact h rfl; simp at h), if_pos rfl, decide_eq_true ht]
  simp
theorem decF_out : ∀ (L : List InstrS) (s : List UInt8) (out : List OpS), decF L s out = if (decF L s []).2.2 = 0 then (out ++ (decF L s []).1, (decF L s []).2) else decF L s []
  | [], s, out => by simp [decF]
  | i :: r, s, out => by
    unfold decF
    split
    · split
      · simp
      · exact decF_out r s out
    · split
      · split
        · simp
        · rw [decF_out r _ (out ++ _), decF_out r _ ([] ++ _)]
          split <;> simp_all
      · rw [decF_out r _ (out ++ _), decF_out r _ ([] ++ _)]
        split <;> simp_all
theorem step_zero {k : WalkS} {i : InstrS} : (stepS k i).1 = 0 ↔ operandS i.kind i.n i.widths k.styles k.topics = true ∧ (placeS k i.kind i.widths.length).1 = true ∧ (textsS (placeS k i.kind i.widths.length).2 i.kind i.n).1 = true := by
  unfold stepS
  split
  · rename_i h; simp [h]
  · split
    · rename_i h; simp [h]
    · split
      · rename_i h; simp [h]
      · rename_i h1 h2 h3
        simp at h1 h2 h3
        simp [h1, h2, h3]
theorem ops_eq {sty tp : Int} : ∀ (L : List InstrS) (k : WalkS) (m : MachS) (n : Nat) (ni nb nl np ns : Int) (ds : List Int), (∀ i ∈ L, InstrX i) → (∀ (j : Nat) i, L[j]? = some i → (i.kind = 15 ↔ j + 1 = L.length)) → L ≠ [] → WOk k n → Sim k m k.last → k.styles = sty → k.topics = tp →
    ((runF ni nb L k nl np ns ds).e = 0 ↔ (decF L k.s []).2.2 = 0 ∧ chkGo sty tp (decF L k.s []).1 m = true)
  | [], _, _, _, _, _, _, _, _, _, _, _, h, _, _, _, _ => absurd rfl h
  | i :: r, k, m, n, ni, nb, nl, np, ns, ds, hX, hL, _, ok, sm, h1, h2 => by
    have X := hX i (List.mem_cons_self ..)
    have hk := X.k
    have hsp := sim_place (wl := i.widths.length) ok sm hk.1 hk.2 (by omega)
    have hpk := place_keep (k := k) (kind := i.kind) (wl := i.widths.length)
    have hrun : (runF ni nb (i :: r) k nl np ns ds).e = if (stepS k i).1 ≠ 0 then (stepS k i).1 else (runF ni nb r (stepS k i).2 (if i.kind = 3 ∨ i.kind = 4 then nl + 1 else nl) (if i.kind = 8 then np + 1 else np) (max ns (stepS k i).2.depth) (ds ++ [(k.depth : Int)])).e := by
      rw [runF]; split <;> rfl
    have hz := step_zero (k := k) (i := i)
    rw [h1, h2] at hz
    by_cases h15 : i.kind = 15
    · have hr : r = [] := by
        have := (hL 0 i rfl).1 h15
        simp at this; exact this
      subst hr
      rw [if_pos h15] at hsp
      have htx := texts_15 (k := (placeS k i.kind i.widths.length).2) (n := i.n) h15
      rw [hpk.1] at htx
      have hop : operandS i.kind i.n i.widths sty tp = true := by
        rw [operandS, if_neg (by omega), if_neg (by omega), if_neg (by omega), if_neg (by omega)]
      have hd : decF [i] k.s [] = if k.s ≠ [] then ([], i.at_, 162) else ([], 0, 0) := by
        rw [decF, if_pos h15]; split <;> rfl
      rw [hrun, hd]
      rw [hop, hsp.1, htx] at hz
      by_cases hs : k.s = []
      · rw [if_neg (show ¬ k.s ≠ [] from fun h => h hs)]
        by_cases hdn : m.done = true
        · have h0 := hz.2 ⟨rfl, hdn, by simp [hs]⟩
          rw [if_neg (show ¬ (stepS k i).1 ≠ 0 from fun h => h h0)]
          simp [runF, chkGo, hdn]
        · have h0 : (stepS k i).1 ≠ 0 := fun h => hdn (hz.1 h).2.1
          rw [if_pos h0]
          simp [h0, chkGo, hdn]
      · have h0 : (stepS k i).1 ≠ 0 := fun h => hs (of_decide_eq_true (hz.1 h).2.2)
        rw [if_pos h0, if_pos hs]
        simp [h0]
    · have hr : r ≠ [] := fun h => h15 ((hL 0 i rfl).2 (by rw [h]; rfl))
      rw [if_neg h15, if_neg h15] at hsp
      have hrec := fun (m' : MachS) (h0 : (stepS k i).1 = 0) (hs2 : Sim (stepS k i).2 m' (stepS k i).2.last) =>
        ops_eq (sty := sty) (tp := tp) r (stepS k i).2 m' (n + 1) ni nb (if i.kind = 3 ∨ i.kind = 4 then nl + 1 else nl) (if i.kind = 8 then np + 1 else np) (max ns (stepS k i).2.depth) (ds ++ [(k.depth : Int)]) (fun j hj => hX j (List.mem_cons_of_mem _ hj))
          (fun j x hj => by have := hL (j + 1) x (by simpa using hj); simp only [List.length_cons] at this; omega) hr (step_ok ok h0).ok hs2
      have go : ∀ (o : OpS) (s' : List UInt8), decF (i :: r) k.s [] = decF r s' [o] → o.kind = i.kind → o.widths.length = i.widths.length → (fieldsS o sty tp = true ↔ operandS i.kind i.n i.widths sty tp = true ∧ (textsS (placeS k i.kind i.widths.length).2 i.kind i.n).1 = true) →
          ((stepS k i).1 = 0 → (stepS k i).2.s = s') → ((runF ni nb (i :: r) k nl np ns ds).e = 0 ↔ (decF (i :: r) k.s []).2.2 = 0 ∧ chkGo sty tp (decF (i :: r) k.s []).1 m = true) := by
        intro o s' hd ho1 ho2 hf hs'
        rw [hrun, hd, decF_out r s' [o]]
        by_cases h0 : (stepS k i).1 = 0
        · obtain ⟨z1, z2, z3⟩ := hz.1 h0
          have hst0 := look_0 (k := k) (i := i) (by rw [h1, h2]; exact z1) z2 z3
          have hk2 : (stepS k i).2 = { (textsS (placeS k i.kind i.widths.length).2 i.kind i.n).2 with last := i.kind } := by rw [hst0]
          have hsim2 : Sim (stepS k i).2 (machStep m i.kind i.widths.length).2 (stepS k i).2.last := by
            rw [hk2]; exact sim_texts (hsp.2 z2) rfl
          have hsk := step_keep hst0
          have ih := hrec _ h0 hsim2 (hsk.1.trans h1) (hsk.2.trans h2)
          rw [hs' h0] at ih
          rw [if_neg (show ¬ (stepS k i).1 ≠ 0 from fun h => h h0), ih]
          have hms : (machStep m i.kind i.widths.length).1 = true := by rw [← hsp.1]; exact z2
          by_cases hde : (decF r s' []).2.2 = 0
          · rw [if_pos hde]
            simp only [hde, true_and, List.singleton_append, chkGo, ho1, ho2, hf.2 ⟨z1, z3⟩, hms, Bool.true_and]
          · rw [if_neg hde]; simp [hde]
        · rw [if_pos h0]
          constructor
          · intro h; exact absurd h h0
          · rintro ⟨hde, hc⟩
            by_cases hde2 : (decF r s' []).2.2 = 0
            · rw [if_pos hde2] at hc
              simp only [List.singleton_append, chkGo, ho1, ho2, Bool.and_eq_true] at hc
              exact absurd (hz.2 ⟨(hf.1 hc.1.1).1, by rw [hsp.1]; exact hc.1.2, (hf.1 hc.1.1).2⟩) h0
            · rw [if_neg hde2] at hde; exact absurd hde hde2
      by_cases hk1 : i.kind = 1
      · have hn1 := X.n1 hk1
        have hw0 := X.w0 (by omega)
        have hop : operandS i.kind i.n i.widths sty tp = true := by
          rw [operandS, if_neg (by omega), if_neg (by omega), if_neg (by omega), if_neg (by omega)]
        by_cases hs : (k.s.length : Int) < i.n
        · have hd : decF (i :: r) k.s [] = ([], i.at_, 162) := by rw [decF, if_neg h15, if_pos hk1, if_pos hs]
          have h0 : (stepS k i).1 ≠ 0 := fun h => by
            have := (hz.1 h).2.2
            rw [texts_1x hk1 (by rw [hpk.1]; exact hs)] at this
            cases this
          rw [hrun, if_pos h0, hd]
          simp [h0]
        · have htx := texts_1 (k := (placeS k i.kind i.widths.length).2) hk1 (by rw [hpk.1]; exact hs)
          rw [hpk.1] at htx
          refine go ⟨1, 0, k.s.take i.n.toNat, []⟩ (k.s.drop i.n.toNat) (by rw [decF, if_neg h15, if_pos hk1, if_neg hs]; rfl) hk1.symm (by rw [hw0]) ?_ (fun h0 => ?_)
          · rw [fields_1 (by
              intro h
              have := congrArg List.length h
              rw [List.length_take, List.length_nil] at this
              omega), htx, hop]
            simp
          · have hst0 := look_0 (k := k) (i := i) (by rw [h1, h2]; exact (hz.1 h0).1) (hz.1 h0).2.1 (hz.1 h0).2.2
            rw [hst0]
            dsimp only
            rw [htx]
      · have htx := texts_no (k := (placeS k i.kind i.widths.length).2) (n := i.n) hk1 h15
        refine go ⟨i.kind, i.n, [], i.widths⟩ k.s (by rw [decF, if_neg h15, if_neg hk1]; rfl) rfl rfl ?_ (fun h0 => ?_)
        · rw [fields_else X hk1 h15, htx]; simp
        · have hst0 := look_0 (k := k) (i := i) (by rw [h1, h2]; exact (hz.1 h0).1) (hz.1 h0).2.1 (hz.1 h0).2.2
          rw [hst0]
          dsimp only
          rw [htx]
          exact hpk.1
/-- what was decoded, counted -/
theorem dec_count : ∀ (L : List InstrS) (s : List UInt8), (∀ i ∈ L, InstrX i) → (∀ (j : Nat) i, L[j]? = some i → (i.kind = 15 ↔ j + 1 = L.length)) → L ≠ [] → (decF L s []).2.2 = 0 → (decF L s []).1.length + 1 = L.length ∧ textsT (decF L s []).1 = s.length
  | [], _, _, _, h, _ => absurd rfl h
  | i :: r, s, hX, hL, _, h0 => by
    have X := hX i (List.mem_cons_self ..)
    have hX' : ∀ j ∈ r, InstrX j := fun j hj => hX j (List.mem_cons_of_mem _ hj)
    have hL' : ∀ (j : Nat) x, r[j]? = some x → (x.kind = 15 ↔ j + 1 = r.length) := fun j x hj => by have := hL (j + 1) x (by simpa using hj); simp only [List.length_cons] at this; omega
    by_cases h15 : i.kind = 15
    · have hr : r = [] := by
        have := (hL 0 i rfl).1 h15
        simp at this; exact this
      subst hr
      rw [decF, if_pos h15] at h0 ⊢
      split at h0
      · exact absurd (show (162 : Int) = 0 from h0) (by decide)
      · rename_i hs
        rw [if_neg hs]
        have hs' : s = [] := Classical.not_not.1 hs
        subst hs'
        exact ⟨rfl, rfl⟩
    · have hr : r ≠ [] := fun h => h15 ((hL 0 i rfl).2 (by rw [h]; rfl))
      have hn1 := X.n1
      rw [decF, if_neg h15] at h0 ⊢
      split at h0
      · rename_i hk1
        rw [if_pos hk1]
        split at h0
        · exact absurd (show (162 : Int) = 0 from h0) (by decide)
        · rename_i hs
          rw [if_neg hs]
          have hn := hn1 hk1
          rw [decF_out r _ ([] ++ _)] at h0 ⊢
          by_cases hd : (decF r (s.drop i.n.toNat) []).2.2 = 0
          · rw [if_pos hd]
            have ih := dec_count r (s.drop i.n.toNat) hX' hL' hr hd
            refine ⟨by simp; omega, ?_⟩
            have h3 := ih.2
            unfold textsT at *
            simp only [List.nil_append, List.singleton_append, List.flatMap_cons, List.length_append, List.length_take, List.length_drop] at *
            omega
          · rw [if_neg hd] at h0; exact absurd h0 hd
      · rename_i hk1
        rw [if_neg hk1]
        rw [decF_out r _ ([] ++ _)] at h0 ⊢
        by_cases hd : (decF r s []).2.2 = 0
        · rw [if_pos hd]
          have ih := dec_count r s hX' hL' hr hd
          refine ⟨by simp; omega, ?_⟩
          have h3 := ih.2
          unfold textsT at *
          simp only [List.nil_append, List.singleton_append, List.flatMap_cons] at *
          omega
        · rw [if_neg hd] at h0; exact absurd h0 hd
theorem ops_law {b s : List UInt8} {sty tp : Int} : (runS b s sty tp).e = 0 ↔ (decS b s).2.2 = 0 ∧ chk11 (decS b s).1 sty tp = true := by
  unfold decS
  by_cases hi : (instrsS b).2.2 = 0
  · rw [if_neg (by simpa using hi)]
    have hX := instrs_X b
    have hne : (instrsS b).1 ≠ [] := fun h => first_15 hi (by rw [h]; rfl)
    have hcount := dec_count (instrsS b).1 s hX.1 (hX.2 hi) hne
    unfold runS chk11
    by_cases h1 : 16384 < (s.length : Int)
    · rw [if_pos h1]
      constructor
      · intro h; exact absurd (show (2 : Int) = 0 from h) (by decide)
      · rintro ⟨h2, h3⟩
        have := hcount h2
        simp only [Bool.and_eq_true, decide_eq_true_eq] at h3
        omega
    · rw [if_neg h1, if_neg (by simpa using hi)]
      by_cases h2 : 65536 < ((instrsS b).1.length : Int) - 1
      · rw [if_pos h2]
        constructor
        · intro h; exact absurd (show (2 : Int) = 0 from h) (by decide)
        · rintro ⟨h3, h4⟩
          have := hcount h3
          simp only [Bool.and_eq_true, decide_eq_true_eq] at h4
          omega
      · rw [if_neg h2, ops_eq (sty := sty) (tp := tp) (instrsS b).1 (walk0 s sty tp) mach0 0 _ _ _ _ _ _ hX.1 (hX.2 hi) hne walk0_ok sim_0 rfl rfl]
        constructor
        · rintro ⟨h3, h4⟩
          have := hcount h3
          refine ⟨h3, ?_⟩
          rw [Bool.and_eq_true]
          exact ⟨decide_eq_true (by omega), h4⟩
        · rintro ⟨h3, h4⟩
          rw [Bool.and_eq_true] at h4
          exact ⟨h3, h4.2⟩
  · rw [if_pos hi]
    unfold runS
    constructor
    · intro h
      split at h
      · exact absurd (show (2 : Int) = 0 from h) (by decide)
      · first
          | exact absurd h hi
          | (rw [if_pos hi] at h; exact absurd h hi)
    · rintro ⟨h, _⟩; exact absurd h hi

end Go.Proofs.YtpaecijilnfkhaaDoor
