import Derived.Test.YtpaecijilnfkhaaDoorEng2
/-
  The engine: a region that draws, with one operation that makes memory ahead of heads that do not wait for it.
-/
namespace Go.Eng
open Go Go.RowKit

section
variable {P : Program} {N : Nat} {C : Cx} {Q : Exit → Act → World → Prop} {e e' : Env} {hs : List Chunk} {I : World → Prop}
/-- A head that leaves the world as it is. -/
def Head2 (P : Program) (N : Nat) (C : Cx) (ops : Array Oper) (e : Env) (hs : List Chunk) (I : World → Prop) (o : Oper) (v : Value) : Prop :=
  ∀ a, Fr a N e → (Region.wanted o (yielded ops a.tmps) = false ∧ v = undef) ∨
    (Region.wanted o (yielded ops a.tmps) = true ∧ ∀ w, Hb C w hs I → (execOp a.eval o).run P w = .ok (.value v) w)
theorem Head2.head {ops : Array Oper} {o : Oper} {v : Value} (h : Head2 P N C ops e hs I o v) : Head P N C ops e hs I o v := fun a ha => (h a ha).imp id fun h1 => ⟨h1.1, fun w hb => by rw [h1.2 w hb]; exact ⟨rfl, hb⟩⟩
/-- Heads; those of 'lt' leave the world as it is. -/
def HA (P : Program) (N : Nat) (C : Cx) (ops : Array Oper) (T : Env → Prop) (hs : List Chunk) (I : World → Prop) (lt : Nat → Bool) : Nat → List Oper → Env → Prop
  | _, [], e => T e
  | k, o :: r, e => ∃ v, ((lt k = false ∧ Head P N C ops e hs I o v) ∨ Head2 P N C ops e hs I o v) ∧ freshO N e o.dst = true ∧ HA P N C ops T hs I lt (k + 1) r (putE e o.dst v)

theorem HA.unroll {ops : Array Oper} {T : Env → Prop} {lt : Nat → Bool} : ∀ (heads : List Oper) (k : Nat) (e : Env), HA P N C ops T hs I lt k heads e →
    ∃ hl : List (Oper × Value), hl.map (·.1) = heads ∧ (∀ i o v, hl[i]? = some (o, v) → ((lt (k + i) = false ∧ Head P N C ops (envs hl i e) hs I o v) ∨ Head2 P N C ops (envs hl i e) hs I o v) ∧ freshO N (envs hl i e) o.dst = true) ∧ T (envs hl hl.length e)
  | [], _, e, h => ⟨[], rfl, by simp, h⟩
  | o :: r, k, e, h => by
    obtain ⟨v, h1, h2, h3⟩ := h
    obtain ⟨hl, h4, h5, h6⟩ := HA.unroll r _ _ h3
    refine ⟨(o, v) :: hl, by simp [h4], fun i o' v' hi => ?_, by simpa [envs] using h6⟩
    cases i with
    | zero =>
      simp only [List.getElem?_cons_zero, Option.some.injEq, Prod.mk.injEq] at hi
      obtain ⟨rfl, rfl⟩ := hi
      exact ⟨h1, h2⟩
    | succ i =>
      have := h5 i o' v' (by simpa using hi)
      rw [show k + (i + 1) = k + 1 + i by omega]
      simpa [envs] using this

/-- An operation that makes memory. -/
def Alc (P : Program) (N : Nat) (C : Cx) (e : Env) (hs : List Chunk) (I : World → Prop) (o : Oper) {ι : Type} (v : ι → Value) (new : ι → List Chunk) : Prop :=
  ∀ a w, Fr a N e → Hb C w hs I → ∃ x w', (execOp a.eval o).run P w = .ok (.value (v x)) w' ∧ Hb C w' (new x ++ hs) I
theorem Hb.drops {w : World} {ds : List Chunk} (h : Hb C w (ds ++ hs) I) : Hb C w hs I := h.weak (by
  have := Split.app (Split.none ds) (Split.all hs)
  simpa using this) (fun _ h _ => h)
theorem Hb.swap {w w' : World} {ds : List Chunk} (h : Hb C w (ds ++ hs) I) (_ : w' = w) : Hb C w (ds ++ hs) I := h

/-- What stands behind the heads: the operation that makes memory, and the tail. -/
def TA (P : Program) (N : Nat) (C : Cx) (ops : Array Oper) (Q : Exit → Act → World → Prop) (on : Oper) (tail : List Oper) (hs : List Chunk) (I : World → Prop) (e : Env) : Prop :=
  ∃ (ι : Type) (v : ι → Value) (new : ι → List Chunk) (d : Nat), Nonempty ι ∧ on.dst = some d ∧ on.guard = none ∧ Alc P N C e hs I on v new ∧ freshO N e (some d) = true ∧ ∀ x, WL P N C ops tail Q (putE e (some d) (v x)) (new x ++ hs) I

def earlyOk (l : List Oper) (n : Nat) (lt : Nat → Bool) : Bool :=
  (match l[n]? with | some o => decide (o.guard = none) | none => false) && (List.range n).all fun i => lt i || Region.waitsFor .any l.toArray n i

theorem W.drawA {id : Nat} {l : List Oper} (n : Nat) (lt : Nat → Bool) (hm : P.follows .mixedOrders = true) (hB : headOk l (n + 1) = true) (hE : earlyOk l n lt = true) (on : Oper) (hon : l[n]? = some on)
    (h : HA P N C l.toArray (TA P N C l.toArray Q on (l.drop (n + 1)) hs I) hs I lt 0 (l.take n) e) : W P N C (.region id l.toArray true) Q e hs I := by
  intro a w hf hb
  refine wp_region_any hm ?_
  have hF := headOk_spec hB
  obtain ⟨hl, hmap, hhead, ι, vx, new, d0, hne0, hd0, hg0, halc, hfr0, htail⟩ := HA.unroll _ _ _ h
  have hlen : hl.length = n := by
    have := congrArg List.length hmap
    simp at this
    have := hF.le
    omega
  rw [hlen] at htail halc hfr0
  have hget : ∀ (i : Nat) (o : Oper) (v : Value), hl[i]? = some (o, v) → l[i]? = some o := fun i o v hi => by
    have h1 : (hl.map (·.1))[i]? = some o := by simp [hi]
    rw [hmap, List.getElem?_take] at h1
    split at h1
    · exact h1
    · cases h1
  have hin : ∀ (i : Nat) (o : Oper) (v : Value), hl[i]? = some (o, v) → i < n := fun i o v hi => by
    have := (List.getElem?_eq_some_iff.1 hi).1
    omega
  -- the heads with the one more
  let HL : ι → List (Oper × Value) := fun x => hl ++ [(on, vx x)]
  have hHL : ∀ x, (HL x).length = n + 1 := fun x => by simp [HL, hlen]
  have hlt' : ∀ (x : ι) (i : Nat), i < n → (HL x)[i]? = hl[i]? := fun x i hi => by
    simp only [HL]
    rw [List.getElem?_append_left (by omega)]
  have hn' : ∀ x : ι, (HL x)[n]? = some (on, vx x) := fun x => by
    simp only [HL]
    rw [List.getElem?_append_right (by omega), hlen, Nat.sub_self]
    rfl
  have hget2 : ∀ (x : ι) (i : Nat) (o : Oper) (v : Value), (HL x)[i]? = some (o, v) → l[i]? = some o := fun x i o v hi => by
    have hi1 := (List.getElem?_eq_some_iff.1 hi).1
    rw [hHL] at hi1
    by_cases hin : i < n
    · rw [hlt' x i hin] at hi; exact hget i o v hi
    · have : i = n := by omega
      subst this
      rw [hn' x] at hi
      injection hi with hi
      injection hi with hi
      rw [← hi]; exact hon
  have hin2 : ∀ (x : ι) (i : Nat) (o : Oper) (v : Value), (HL x)[i]? = some (o, v) → i < n + 1 := fun x i o v hi => by
    have := (List.getElem?_eq_some_iff.1 hi).1
    rw [hHL] at this
    exact this
  have hdist : ∀ x, Distinct (HL x) := fun x i j o v o' v' s hi hj hij hds => (hF.dist j i o' o s (hin2 x _ _ _ hj) (hin2 x _ _ _ hi) (hget2 x _ _ _ hj) (hget2 x _ _ _ hi) (Ne.symm hij) hds).1
  have hdist0 : Distinct hl := fun i j o v o' v' s hi hj hij hds => (hF.dist j i o' o s (Nat.lt_succ_of_lt (hin _ _ _ hj)) (Nat.lt_succ_of_lt (hin _ _ _ hi)) (hget _ _ _ hj) (hget _ _ _ hi) (Ne.symm hij) hds).1
  have hfr := envs_fr hdist0 hf fun i o v hi => (hhead i o v hi).2
  have hsize : l.toArray.size = l.length := by simp
  have hnlt : n < l.length := (List.getElem?_eq_some_iff.1 hon).1
  -- the text-order frames do not hang on x below n
  have hpre : ∀ (x : ι) (k : Nat), k ≤ n → puts (HL x) (fun j => decide (j < k)) 0 a = puts hl (fun j => decide (j < k)) 0 a := fun x k hk => by
    have key : ∀ (m : List (Oper × Value)) (L : Nat → Bool) (q : Nat) (b : Act) (p : Oper × Value), L (q + m.length) = false → puts (m ++ [p]) L q b = puts m L q b := by
      intro m L
      induction m with
      | nil => intro q b p hL; simp [puts] at hL ⊢; simp [hL]
      | cons y r ih => intro q b p hL; simp only [List.cons_append, puts]; exact ih _ _ _ (by rw [← hL]; congr 1; simp; omega)
    exact key hl _ 0 a _ (by simp [hlen]; omega)
  have hfull : ∀ x : ι, puts (HL x) (fun j => decide (j < n + 1)) 0 a = (puts hl (fun j => decide (j < n)) 0 a).put (some d0) (vx x) := fun x => by
    have h1 := puts_step (hdist x) (L := fun j => decide (j < n)) (hn' x) (by simp) a
    rw [hpre x n (Nat.le_refl _), hd0] at h1
    rw [h1]
    exact (puts_congr (HL x) _ _ 0 a fun j _ => by
      simp only [Nat.zero_add]
      cases hq : Nat.beq j n with
      | true => have := Nat.eq_of_beq_eq_true hq; subst this; simp
      | false =>
        have : j ≠ n := fun h => by subst h; simp at hq
        rw [Bool.eq_iff_iff]; simp; omega)
  have main : ∀ (fuel : Nat) (x : ι) (listed : Array Bool) (w' : World), HeadInv .any l.toArray (n + 1) listed → Hb C w' ((if listed.getD n false then new x else []) ++ hs) I →
      (l.length - (n + 1)) + (List.range (n + 1)).countP (fun i => !listed.getD i true) ≤ fuel →
      wpAny P .any l.toArray Q fuel listed (puts (HL x) (fun j => listed.getD j false) 0 a) w' := by
    intro fuel
    induction fuel with
    | zero =>
      intro x listed w' inv hb' hfu
      have hall : ∀ j, j < n + 1 → listed.getD j false = true := fun j hj => by
        have h1 : (List.range (n + 1)).countP (fun i => !listed.getD i true) = 0 := by omega
        have h2 := List.countP_eq_zero.1 h1 j (List.mem_range.2 hj)
        rw [← getD_tf (by rw [inv.size, hsize]; have := hF.le; omega)]
        simpa using h2
      refine chain_any hF.edge (hF.tail.imp (fun h => by rw [hsize]; exact h) (fun h => h.2)) 0 (n + 1) listed _ w' (Nat.le_refl _) (by rw [hsize]; exact hF.le) inv.size (fun j hj => ?_) (by rw [hsize]; omega) ?_
      · by_cases hjn : j < n + 1
        · rw [hall j hjn]; simp [hjn]
        · rw [← getD_tf (by rw [inv.size]; exact hj)]
          have h1 := inv.tail j (by omega) hj
          have h2 : listed.getD j false = false := getD_both h1
          rw [getD_tf (by rw [inv.size]; exact hj), h2]
          simp [hjn]
      · rw [puts_congr (HL x) _ (fun j => decide (j < n + 1)) 0 a fun j hj => by
          simp only [Nat.zero_add]
          rw [hHL] at hj
          rw [hall j hj]
          simp [hj], hfull x]
        rw [hall n (by omega)] at hb'
        exact htail x _ w' (by have := hfr n (by omega); exact this.putE (by simpa [freshO] using hfr0)) (by simpa using hb')
    | succ fuel ih =>
      intro x listed w' inv hb' hfu
      by_cases hall : ∀ j, j < n + 1 → listed.getD j false = true
      · refine chain_any hF.edge (hF.tail.imp (fun h => by rw [hsize]; exact h) (fun h => h.2)) (fuel + 1) (n + 1) listed _ w' (Nat.le_refl _) (by rw [hsize]; exact hF.le) inv.size (fun j hj => ?_) (by
          have h0 : (List.range (n + 1)).countP (fun i => !listed.getD i true) = 0 := List.countP_eq_zero.2 fun j hj => by
            have hj' := List.mem_range.1 hj
            rw [getD_tf (by rw [inv.size, hsize]; have := hF.le; omega), hall j hj']
            simp
          rw [hsize]; omega) ?_
        · by_cases hjn : j < n + 1
          · rw [hall j hjn]; simp [hjn]
          · have h1 := inv.tail j (by omega) hj
            rw [getD_both h1]
            simp [hjn]
        · rw [puts_congr (HL x) _ (fun j => decide (j < n + 1)) 0 a fun j hj => by
            simp only [Nat.zero_add]
            rw [hHL] at hj
            rw [hall j hj]
            simp [hj], hfull x]
          rw [hall n (by omega)] at hb'
          exact htail x _ w' (by have := hfr n (by omega); exact this.putE (by simpa [freshO] using hfr0)) (by simpa using hb')
      · have hex : ∃ j, j < n + 1 ∧ listed.getD j false = false := by
          apply Classical.byContradiction
          intro hno
          refine hall fun j hj => ?_
          cases hg : listed.getD j false with
          | true => rfl
          | false => exact absurd ⟨j, hj, hg⟩ hno
        have hleN := hF.le
        have hready : ∀ i ∈ Region.ready .any l.toArray listed, i < n + 1 := fun i hi => by
          rcases Nat.lt_or_ge i (n + 1) with h1 | h1
          · exact h1
          · exfalso
            have hil : i < l.length := by
              obtain ⟨_, o, ho, _⟩ := mem_ready.1 hi
              have := (Array.getElem?_eq_some_iff.1 ho).1
              simpa using this
            rcases hF.tail with h2 | h2
            · omega
            · obtain ⟨j, hj, hg⟩ := hex
              exact tail_waits h2.1 h2.2 (by rw [hsize]; omega) inv _ j rfl hj (getD_in (by rw [inv.size, hsize]; omega) hg) i h1 hi
        have hne : Region.ready .any l.toArray listed ≠ [] := by
          obtain ⟨j, hj, hg⟩ := hex
          have key : ∀ k, ∀ j, j < n + 1 → listed.getD j false = false → j ≤ k → ∃ i, i ∈ Region.ready .any l.toArray listed := by
            intro k
            induction k with
            | zero =>
              intro j hj hg hjk
              have hj0 : j = 0 := by omega
              subst hj0
              have hlt : 0 < l.toArray.size := by rw [hsize]; omega
              refine ⟨0, mem_ready.2 ⟨getD_in (by rw [inv.size]; exact hlt) hg, _, Array.getElem?_eq_getElem hlt, fun x hx hbx => ?_⟩⟩
              have := hF.edge 0 _ (Array.getElem?_eq_getElem hlt) x hx hbx
              omega
            | succ k ihk =>
              intro j hj hg hjk
              have hlt : j < l.toArray.size := by rw [hsize]; omega
              by_cases hd : ∀ x ∈ (l.toArray[j]).after, Region.binds .any x = true → listed.getD x.on false = true
              · exact ⟨j, mem_ready.2 ⟨getD_in (by rw [inv.size]; exact hlt) hg, _, Array.getElem?_eq_getElem hlt, fun x hx hbx => hd x hx hbx⟩⟩
              · have hex2 : ∃ x ∈ (l.toArray[j]).after, Region.binds .any x = true ∧ listed.getD x.on false = false := by
                  apply Classical.byContradiction
                  intro hno
                  refine hd fun x hx hbx => ?_
                  cases hg2 : listed.getD x.on false with
                  | true => rfl
                  | false => exact absurd ⟨x, hx, hbx, hg2⟩ hno
                obtain ⟨x, hx, hbx, hg2⟩ := hex2
                have := hF.edge j _ (Array.getElem?_eq_getElem hlt) x hx hbx
                exact ihk x.on (by omega) hg2 (by omega)
          obtain ⟨i, hi⟩ := key j j hj hg (Nat.le_refl _)
          intro h0
          rw [h0] at hi
          cases hi
        refine ⟨fun h0 => absurd h0 hne, fun i hi => ?_⟩
        have hin' := hready i hi
        obtain ⟨hun, o, ho, hdeps⟩ := mem_ready.1 hi
        have hLi : listed.getD i false = false := getD_both hun
        have hisz : i < listed.size := by rw [inv.size, hsize]; omega
        have hoi : l[i]? = some o := by simpa using ho
        -- the frame in the text's order reads alike
        have hslot : ∀ y : ι, (listed.getD n false = true → y = x) → ∀ s ∈ o.looksAt l.toArray, (puts (HL x) (fun j => listed.getD j false) 0 a).tmps[s]? = (puts (HL y) (fun j => decide (j < i)) 0 a).tmps[s]? := by
          intro y hyx s hs
          by_cases hssz : s < a.tmps.size
          · by_cases hex3 : ∃ j oj vj, (HL x)[j]? = some (oj, vj) ∧ j ≠ i ∧ oj.dst = some s
            · obtain ⟨j, oj, vj, hj, hji, hds⟩ := hex3
              have h1 := (hF.dist i j o oj s hin' (hin2 x _ _ _ hj) hoi (hget2 x _ _ _ hj) (Ne.symm hji) hds).2 hs
              have hun2 : ∀ (z : ι) (k : Nat) (o2 : Oper) (v2 : Value), (HL z)[k]? = some (o2, v2) → k ≠ j → o2.dst ≠ some s := fun z k o2 v2 hk hkj hd2 => by
                have hk1 := hin2 z _ _ _ hk
                exact (hF.dist k j o2 oj s hk1 (hin2 x _ _ _ hj) (hget2 z _ _ _ hk) (hget2 x _ _ _ hj) hkj hds).1 hd2
              rcases h1 with h1 | h1
              · obtain ⟨oi2, hoi2, z, hz, hbz, hzon⟩ := Region.waitsFor_spec h1.2
                have : oi2 = o := Option.some.inj (hoi2.symm.trans ho)
                subst this
                have h2 := hdeps z hz hbz
                rw [hzon] at h2
                have hjn : j < n := by have := hin2 x _ _ _ hj; have := h1.1; omega
                have hj2 : (HL y)[j]? = some (oj, vj) := by rw [hlt' y j hjn, ← hlt' x j hjn]; exact hj
                rw [puts_some (HL x) _ s 0 a j oj vj hj (by simpa using h2) hds hssz (hun2 x), puts_some (HL y) _ s 0 a j oj vj hj2 (by simpa using h1.1) hds hssz (hun2 y)]
              · obtain ⟨oj2, hoj2, z, hz, hbz, hzon⟩ := Region.waitsFor_spec h1.2
                have hjl : listed.getD j false = false := by
                  cases hg2 : listed.getD j false with
                  | false => rfl
                  | true =>
                    have h2 := inv.closed j oj2 hoj2 hg2 z hz hbz
                    rw [hzon, hLi] at h2
                    cases h2
                have h3 : ∀ (z : ι) (L : Nat → Bool), L j = false → (puts (HL z) L 0 a).tmps[s]? = a.tmps[s]? := fun z L hL => puts_none (HL z) L s 0 a fun k ok vk hk hLk hdk => by
                  by_cases hkj : k = j
                  · subst hkj
                    rw [Nat.zero_add, hL] at hLk
                    cases hLk
                  · exact hun2 z k ok vk hk hkj hdk
                rw [h3 x _ hjl, h3 y _ (by simp; omega)]
            · have hex4 : ∀ (z : ι) (j : Nat) (oj : Oper) (vj : Value), (HL z)[j]? = some (oj, vj) → j ≠ i → oj.dst ≠ some s := fun z j oj vj hj hji hds => by
                refine hex3 ?_
                have hjlt := hin2 z _ _ _ hj
                by_cases hjn : j < n
                · exact ⟨j, oj, vj, by rw [hlt' x j hjn, ← hlt' z j hjn]; exact hj, hji, hds⟩
                · have : j = n := by omega
                  subst this
                  rw [hn' z] at hj
                  injection hj with hj
                  injection hj with hj1 hj2
                  subst hj1
                  exact ⟨j, on, vx x, hn' x, hji, hds⟩
              have h3 : ∀ (z : ι) (L : Nat → Bool), L i = false → (puts (HL z) L 0 a).tmps[s]? = a.tmps[s]? := fun z L hL => puts_none (HL z) L s 0 a fun j oj vj hj hLj hds => by
                by_cases hji : j = i
                · subst hji
                  rw [Nat.zero_add, hL] at hLj
                  cases hLj
                · exact hex4 z j oj vj hj hji hds
              rw [h3 x _ hLi, h3 y _ (by simp)]
          · have hz : ∀ (z : ι) (L : Nat → Bool), (puts (HL z) L 0 a).tmps[s]? = none := fun z L => by
              have h5 := (puts_size (HL z) L 0 a).1
              rw [Array.getElem?_eq_none_iff, h5]
              exact Nat.le_of_not_lt hssz
            rw [hz, hz]
        have hsel : ∀ cs b, o.op ≠ .select cs b := fun cs b => Region.noSelect_spec hF.nosel i o cs b ho
        have hcount : (l.length - (n + 1)) + (List.range (n + 1)).countP (fun j => !(listed.setIfInBounds i true).getD j true) ≤ fuel := by
          have := countP_lt (l := List.range (n + 1)) (p := fun i => !listed.getD i true) (p' := fun j => !(listed.setIfInBounds i true).getD j true) (fun x _ hx => by
            by_cases hxi : i = x
            · subst hxi; simp [hisz] at hx
            · rwa [getD_set_ne true hxi] at hx) (List.mem_range.2 hin') (by simp [hun]) (by simp [hisz])
          omega
        -- the frame behind the step
        have hfrm : ∀ (y : ι) (v : Value), (HL y)[i]? = some (o, v) → puts (HL y) (fun j => listed.getD j false) 0 a = puts (HL x) (fun j => listed.getD j false) 0 a →
            (puts (HL x) (fun j => listed.getD j false) 0 a).put o.dst v = puts (HL y) (fun j => (listed.setIfInBounds i true).getD j false) 0 a := by
          intro y v hv hxy
          rw [← hxy, puts_step (hdist y) hv hLi a]
          exact puts_congr (HL y) _ (fun j => (listed.setIfInBounds i true).getD j false) 0 a fun j _ => by
            simp only [Nat.zero_add]
            by_cases hji : j = i
            · subst hji
              simp [hisz]
            · rw [getD_set_ne false (Ne.symm hji)]
              have : Nat.beq j i = false := by
                cases hbq : Nat.beq j i with
                | false => rfl
                | true => exact absurd (Nat.eq_of_beq_eq_true hbq) hji
              rw [this]
              simp
        have hexec : ∀ y : ι, (listed.getD n false = true → y = x) → execOp (puts (HL x) (fun j => listed.getD j false) 0 a).eval o = execOp (puts (HL y) (fun j => decide (j < i)) 0 a).eval o := fun y hyx =>
          execOp_congr o hsel fun z hz => by
            cases z with
            | tmp t =>
              have hmem : t ∈ o.looksAt l.toArray := List.mem_append_left _ (List.mem_filterMap.2 ⟨.tmp t, by simpa using hz, rfl⟩)
              have := hslot y hyx t hmem
              show (puts (HL x) (fun j => listed.getD j false) 0 a).tmps.getD t undef = (puts (HL y) (fun j => decide (j < i)) 0 a).tmps.getD t undef
              rw [Array.getD_eq_getD_getElem?, Array.getD_eq_getD_getElem?, this]
            | _ => rfl
        have hwant : Region.wanted o (yielded l.toArray (puts (HL x) (fun j => listed.getD j false) 0 a).tmps) = Region.wanted o (yielded l.toArray (puts (HL x) (fun j => decide (j < i)) 0 a).tmps) := by
          unfold Region.wanted
          cases hgd : o.guard with
          | none => rfl
          | some p =>
            obtain ⟨g, want⟩ := p
            simp only
            congr 1
            unfold yielded
            cases hdg : (l.toArray[g]?).bind (·.dst) with
            | none => rfl
            | some s =>
              have hmem : s ∈ o.looksAt l.toArray := by
                refine List.mem_append_right _ ?_
                simp only [hgd, hdg]
                simp
              simp only [Option.bind_some]
              rw [hslot x (fun _ => rfl) s hmem]
        unfold wpOp
        rw [ho]
        simp only
        by_cases hin3 : i < n
        · -- a head
          obtain ⟨⟨o', v⟩, hov⟩ : ∃ p, hl[i]? = some p := ⟨_, List.getElem?_eq_getElem (by omega)⟩
          have hoo : o' = o := by
            have h1 := hget i o' v hov
            exact Option.some.inj (h1.symm.trans hoi)
          subst hoo
          have hov2 : (HL x)[i]? = some (o', v) := by rw [hlt' x i hin3]; exact hov
          have hni : ∀ b, (listed.setIfInBounds i true).getD n b = listed.getD n b := fun b => getD_set_ne b (by omega)
          have hstep : ∀ w'', Hb C w'' ((if listed.getD n false then new x else []) ++ hs) I → wpAny P .any l.toArray Q fuel (listed.setIfInBounds i true) ((puts (HL x) (fun j => listed.getD j false) 0 a).put o'.dst v) w'' := by
            intro w'' hb''
            rw [hfrm x v hov2 rfl]
            exact ih x _ w'' (inv.set hi hin') (by rw [hni]; exact hb'') hcount
          have hb0 : Hb C w' hs I := hb'.drops
          have hfi := hfr i (by omega)
          rw [hpre x i (by omega)] at hwant
          have hexec' := hexec x (fun _ => rfl)
          rw [hpre x i (by omega)] at hexec'
          rcases (hhead i o' v hov).1 with ⟨hlate, hh⟩ | hh
          · -- the one that makes memory waits for it
            have hnl : listed.getD n false = false := by
              cases hg2 : listed.getD n false with
              | false => rfl
              | true =>
                unfold earlyOk at hE
                simp only [Bool.and_eq_true] at hE
                have h6 := List.all_eq_true.1 hE.2 i (List.mem_range.2 hin3)
                rw [Nat.zero_add] at hlate
                rw [hlate, Bool.false_or] at h6
                obtain ⟨oj2, hoj2, z, hz, hbz, hzon⟩ := Region.waitsFor_spec h6
                have h2 := inv.closed n oj2 hoj2 hg2 z hz hbz
                rw [hzon, hLi] at h2
                cases h2
            rcases hh _ hfi with ⟨hw0, hv0⟩ | ⟨hw1, hrun⟩
            · rw [hwant, hw0]
              simp only [Bool.false_eq_true, if_false]
              rw [← hv0]
              exact hstep w' hb'
            · rw [hwant, hw1]
              simp only [if_true]
              refine .inl ?_
              unfold Oper.wp
              rw [hexec']
              have h1 := hrun w' hb0
              rw [hnl] at hstep
              generalize (execOp (puts hl (fun j => decide (j < i)) 0 a).eval o').run P w' = r at h1
              cases r with
              | halt x w2 => exact h1.elim
              | ok x w2 =>
                cases x <;> first | exact h1.elim | skip
                · obtain ⟨rfl, h2⟩ := h1
                  exact hstep _ (by simpa using h2)
                · exact Calls.mono h1 fun x w3 hx => by
                    obtain ⟨rfl, h2⟩ := hx
                    exact hstep _ (by simpa using h2)
          · rcases hh _ hfi with ⟨hw0, hv0⟩ | ⟨hw1, hrun⟩
            · rw [hwant, hw0]
              simp only [Bool.false_eq_true, if_false]
              rw [← hv0]
              exact hstep w' hb'
            · rw [hwant, hw1]
              simp only [if_true]
              refine .inl ?_
              unfold Oper.wp
              rw [hexec', hrun w' hb0]
              exact hstep w' hb'
        · -- the one that makes memory
          have hie : i = n := by omega
          subst hie
          have hoon : o = on := Option.some.inj (hoi.symm.trans hon)
          subst hoon
          rw [hLi] at hb'
          have hb0 : Hb C w' hs I := by simpa using hb'
          have hw : Region.wanted o (yielded l.toArray (puts (HL x) (fun j => listed.getD j false) 0 a).tmps) = true := by
            simp only [Region.wanted, hg0]
          rw [hw]
          simp only [if_true]
          refine .inl ?_
          obtain ⟨y, w2, hrun, hb2⟩ := halc _ w' (hfr i (by omega)) hb0
          have hex5 := hexec x (fun _ => rfl)
          rw [hpre x i (Nat.le_refl _)] at hex5
          unfold Oper.wp
          rw [hex5, hrun]
          have hxy : puts (HL y) (fun j => listed.getD j false) 0 a = puts (HL x) (fun j => listed.getD j false) 0 a := by
            have key : ∀ (m : List (Oper × Value)) (L : Nat → Bool) (q : Nat) (b : Act) (p p' : Oper × Value), L (q + m.length) = false → puts (m ++ [p]) L q b = puts (m ++ [p']) L q b := by
              intro m L
              induction m with
              | nil => intro q b p p' hL; simp [puts] at hL ⊢; simp [hL]
              | cons y r ih => intro q b p p' hL; simp only [List.cons_append, puts]; exact ih _ _ _ _ (by rw [← hL]; congr 1; simp; omega)
            exact key hl _ 0 a _ _ (by rw [hlen, Nat.zero_add]; exact hLi)
          show wpAny P .any l.toArray Q fuel (listed.setIfInBounds i true) ((puts (HL x) (fun j => listed.getD j false) 0 a).put o.dst (vx y)) w2
          rw [hfrm y (vx y) (hn' y) hxy]
          exact ih y _ w2 (inv.set hi hin') (by
            have : (listed.setIfInBounds i true).getD i false = true := by simp [hisz]
            rw [this]
            simpa using hb2) hcount
  obtain ⟨x0⟩ := hne0
  have h0 := main l.toArray.size x0 (Array.replicate l.toArray.size false) { w with drawn := w.drawn + 1 }
    ⟨by simp, fun j oj _ hl' => (by rw [getD_replicate_false] at hl'; cases hl'), fun t _ ht => getD_in (by simpa using ht) (getD_replicate_false _ _)⟩
    (by rw [getD_replicate_false]; exact hb.same rfl rfl rfl rfl) (by
      have h1 := List.countP_le_length (p := fun i => !(Array.replicate l.toArray.size false).getD i true) (l := List.range (n + 1))
      simp only [List.length_range] at h1
      have := hF.le
      omega)
  have h2 : puts (HL x0) (fun j => (Array.replicate l.toArray.size false).getD j false) 0 a = a := by
    rw [puts_congr (HL x0) _ (fun _ => false) 0 a fun j _ => by simp only [Nat.zero_add]; exact getD_replicate_false _ _]
    have : ∀ (l : List (Oper × Value)) k b, puts l (fun _ => false) k b = b := fun l => by
      induction l with
      | nil => intro k b; rfl
      | cons p r ih => intro k b; unfold puts; simp [ih]
    exact this _ _ _
  rw [h2] at h0
  exact h0

/-! the rules -/
section
variable {ops : Array Oper} {T : Env → Prop} {lt : Nat → Bool} {k : Nat} {rest : List Oper} {d : Tmp} {ty : TypeId} {pos : String} {af : Array Edge}
theorem putE_mono_keys (hkey : ∀ d, hasKey e d = hasKey e' d) (hk : e.map (·.1) = e'.map (·.1)) (od : Option Tmp) (v : Value) : (putE e od v).map (·.1) = (putE e' od v).map (·.1) := by
  cases hd : od with
  | none => exact hk
  | some d =>
    by_cases hb : hasKey e d = true
    · rw [putE_keys hb, putE_keys (by rw [← hkey]; exact hb), hk]
    · have hb' : ¬ hasKey e' d = true := by rw [← hkey]; exact hb
      simp only [putE, hb, hb']
      simp [hk]
theorem putE_mono_fr (hkey : ∀ d, hasKey e d = hasKey e' d) (hk : e.map (·.1) = e'.map (·.1)) (hf : ∀ a, Fr a N e → Fr a N e') (od : Option Tmp) (v : Value) (h2 : freshO N e od = true) : ∀ a, Fr a N (putE e od v) → Fr a N (putE e' od v) := by
  cases hd : od with
  | none => exact hf
  | some d =>
    intro a ha
    by_cases hb : hasKey e d = true
    · -- the old value of the slot is put back, so that what is known of the others carries over
      have hb' : hasKey e' d = true := by rw [← hkey]; exact hb
      have hsub : ∀ q ∈ e', q.1 ≠ d → a.tmps.getD q.1 undef = q.2 := by
        have hex : ∃ u, (d, u) ∈ e := by
          simp only [hasKey, List.any_eq_true] at hb
          obtain ⟨p, hp, h4⟩ := hb
          exact ⟨p.2, by have := Nat.eq_of_beq_eq_true h4; rw [← this]; exact hp⟩
        obtain ⟨u, hu⟩ := hex
        have hdN : d < a.tmps.size := by
          rw [hd] at h2
          simp only [freshO] at h2
          rw [ha.size]
          simpa [inN, Nat.blt_eq] using h2
        have ha0 : Fr (a.put (some d) u) N e := by
          have hnd : (e.map (·.1)).Nodup := by rw [← putE_keys (v := v) hb]; exact ha.nd
          refine ⟨by simp [Act.put, ha.size], ha.defers, fun q hq => ?_, hnd⟩
          by_cases hqd : q.1 = d
          · have hq2 : q.2 = u := by
              have h5 : ∀ (l : Env), (l.map (·.1)).Nodup → (d, u) ∈ l → q ∈ l → q.2 = u := by
                intro l
                induction l with
                | nil => intro _ h; cases h
                | cons p r ih =>
                  intro hn h6 h7
                  simp only [List.map_cons, List.nodup_cons] at hn
                  rcases List.mem_cons.1 h6 with h66 | h66
                  · rcases List.mem_cons.1 h7 with h77 | h77
                    · rw [h77, ← h66]
                    · exact absurd (show p.1 ∈ r.map (·.1) from List.mem_map.2 ⟨q, h77, by rw [hqd, ← h66]⟩) hn.1
                  · rcases List.mem_cons.1 h7 with h77 | h77
                    · exact absurd (show p.1 ∈ r.map (·.1) from List.mem_map.2 ⟨(d, u), h66, by rw [← h77, hqd]⟩) hn.1
                    · exact ih hn.2 h66 h77
              exact h5 e hnd hu hq
            rw [hqd, hq2]
            simp [Act.put, hdN]
          · have h6 := ha.val q (by simp only [putE, hb, if_true]; exact List.mem_map.2 ⟨q, hq, by rw [if_neg hqd]⟩)
            simp only [Act.put, Array.getD_eq_getD_getElem?] at h6 ⊢
            rw [Array.getElem?_setIfInBounds_ne (Ne.symm hqd)]
            exact h6
        have h7 := hf _ ha0
        intro q hq hqd
        have h8 := h7.val q hq
        simp only [Act.put, Array.getD_eq_getD_getElem?] at h8 ⊢
        rwa [Array.getElem?_setIfInBounds_ne (Ne.symm hqd)] at h8
      refine ⟨ha.size, ha.defers, fun q hq => ?_, ?_⟩
      · simp only [putE, hb', if_true, List.mem_map] at hq
        obtain ⟨q0, hq0, rfl⟩ := hq
        by_cases hqd : q0.1 = d
        · rw [if_pos hqd]
          have : ((d, v) : Nat × Value) ∈ putE e (some d) v := by
            simp only [hasKey, List.any_eq_true] at hb
            obtain ⟨p, hp, h4⟩ := hb
            have h5 := Nat.eq_of_beq_eq_true h4
            have hb2 : hasKey e d = true := by simp only [hasKey, List.any_eq_true]; exact ⟨p, hp, h4⟩
            simp only [putE, hb2, if_true]
            exact List.mem_map.2 ⟨p, hp, by rw [if_pos h5]⟩
          exact ha.val _ this
        · rw [if_neg hqd]
          exact hsub q0 hq0 hqd
      · rw [putE_keys hb', ← hk, ← putE_keys (v := v) hb]
        exact ha.nd
    · have hb' : ¬ hasKey e' d = true := by rw [← hkey]; exact hb
      simp only [putE, hb, hb'] at ha ⊢
      simp only [Bool.false_eq_true, if_false] at ha ⊢
      have h4 := hf a ha.dr
      refine ⟨h4.size, h4.defers, fun p hp => ?_, ?_⟩
      · rcases List.mem_cons.1 hp with rfl | hp
        · exact ha.val _ List.mem_cons_self
        · exact h4.val p hp
      · have := ha.nd
        simp only [List.map_cons] at this ⊢
        rw [← hk]
        exact this
theorem HA.mono : ∀ (heads : List Oper) (k : Nat) (e e' : Env), e.map (·.1) = e'.map (·.1) → (∀ a, Fr a N e → Fr a N e') → (∀ q q' : Env, q.map (·.1) = q'.map (·.1) → (∀ a, Fr a N q → Fr a N q') → T q' → T q) →
    HA P N C ops T hs I lt k heads e' → HA P N C ops T hs I lt k heads e
  | [], _, e, e', hk, hf, hT, h => hT e e' hk hf h
  | o :: r, k, e, e', hk, hf, hT, h => by
    obtain ⟨v, h1, h2, h3⟩ := h
    have hkey : ∀ d, hasKey e d = hasKey e' d := fun d => by
      have : ∀ l : Env, hasKey l d = (l.map (·.1)).any (fun k => Nat.beq k d) := fun l => by
        induction l with
        | nil => rfl
        | cons p r ih => simp only [hasKey, List.any_cons, List.map_cons] at ih ⊢; rw [ih]
      rw [this, this, hk]
    refine ⟨v, h1.imp (fun h => ⟨h.1, fun a ha => h.2 a (hf a ha)⟩) (fun h a ha => h a (hf a ha)), h2, HA.mono r _ _ _ ?_ ?_ hT h3⟩
    · exact putE_mono_keys hkey hk o.dst v
    · exact putE_mono_fr hkey hk hf o.dst v h2
variable {on : Oper} {tail : List Oper}
theorem TA.mono (hk : e.map (·.1) = e'.map (·.1)) (hf : ∀ a, Fr a N e → Fr a N e') (h : TA P N C ops Q on tail hs I e') : TA P N C ops Q on tail hs I e := by
  obtain ⟨ι, v, new, d, h1, h2, h3, h4, h5, h6⟩ := h
  refine ⟨ι, v, new, d, h1, h2, h3, fun a w ha hb => h4 a w (hf a ha) hb, h5, fun x a w ha hb => h6 x a w (putE_mono_fr ?_ hk hf (some d) (v x) h5 a ha) hb⟩
  intro k
  have : ∀ l : Env, hasKey l k = (l.map (·.1)).any (fun q => Nat.beq q k) := fun l => by
    induction l with
    | nil => rfl
    | cons p r ih => simp only [hasKey, List.any_cons, List.map_cons] at ih ⊢; rw [ih]
  rw [this, this, hk]
abbrev HT (P : Program) (N : Nat) (C : Cx) (ops : Array Oper) (Q : Exit → Act → World → Prop) (on : Oper) (tail : List Oper) (hs : List Chunk) (I : World → Prop) (lt : Nat → Bool) (k : Nat) (heads : List Oper) (e : Env) : Prop :=
  HA P N C ops (TA P N C ops Q on tail hs I) hs I lt k heads e
theorem HT.mono {heads : List Oper} (hk : e.map (·.1) = e'.map (·.1)) (hf : ∀ a, Fr a N e → Fr a N e') (h : HT P N C ops Q on tail hs I lt k heads e') : HT P N C ops Q on tail hs I lt k heads e :=
  HA.mono heads k e e' hk hf (fun _ _ h1 h2 h3 => TA.mono h1 h2 h3) h
theorem HT.mk {o : Oper} {v : Value} (ho : o.dst = some d) (hh : (lt k = false ∧ Head P N C ops e hs I o v) ∨ Head2 P N C ops e hs I o v) (hfr : fresh N e d = true) (h : HT P N C ops Q on tail hs I lt (k + 1) rest ((d, v) :: e)) : HT P N C ops Q on tail hs I lt k (o :: rest) e :=
  ⟨v, hh, by rw [ho]; exact fresh_inN hfr, by rw [ho, putE_fresh hfr]; exact h⟩
theorem HT.st {op : Op} {v : Value} (ho : Run P N C e hs I ⟨some d, op, ty, pos, af, none⟩ v) (hfr : fresh N e d = true) (h : HT P N C ops Q on tail hs I lt (k + 1) rest ((d, v) :: e)) :
    HT P N C ops Q on tail hs I lt k (⟨some d, op, ty, pos, af, none⟩ :: rest) e :=
  HT.mk rfl (.inr fun a hf => .inr ⟨rfl, fun w hb => ho a w hf hb⟩) hfr h
theorem HT.up {op : Op} {v : Value} (ho : Run P N C e hs I ⟨some d, op, ty, pos, af, none⟩ v) (hu : Upd e d v e') (hN : inN N d = true) (h : HT P N C ops Q on tail hs I lt (k + 1) rest e') :
    HT P N C ops Q on tail hs I lt k (⟨some d, op, ty, pos, af, none⟩ :: rest) e := by
  refine ⟨v, .inr fun a hf => .inr ⟨rfl, fun w hb => ho a w hf hb⟩, hN, HT.mono ?_ (upd_putE hu) h⟩
  have hk : hasKey e d = true := by
    simp only [hasKey, List.any_eq_true]
    obtain ⟨p, hp, h1⟩ := List.mem_map.1 hu.mem_key
    exact ⟨p, hp, by rw [h1]; exact Nat.beq_refl d⟩
  show (putE e (some d) v).map (·.1) = _
  rw [putE_keys hk, hu.keys]
theorem HT.gy {op : Op} {v : Value} {j s : Nat} {want : Bool} (hsl : gslot ops j = some s) (hl : Look e s (.bool want)) (ho : Run P N C e hs I ⟨some d, op, ty, pos, af, none⟩ v) (hfr : fresh N e d = true) (h : HT P N C ops Q on tail hs I lt (k + 1) rest ((d, v) :: e)) :
    HT P N C ops Q on tail hs I lt k (⟨some d, op, ty, pos, af, some (j, want)⟩ :: rest) e :=
  HT.mk rfl (.inr fun a hf => .inr ⟨by rw [wanted_of hf (o := ⟨some d, op, ty, pos, af, some (j, want)⟩) rfl hsl hl]; simp, fun w hb => ho a w hf hb⟩) hfr h
theorem HT.gn {op : Op} {j s : Nat} {want : Bool} (hsl : gslot ops j = some s) (hl : Look e s (.bool (!want))) (hfr : fresh N e d = true) (h : HT P N C ops Q on tail hs I lt (k + 1) rest ((d, undef) :: e)) :
    HT P N C ops Q on tail hs I lt k (⟨some d, op, ty, pos, af, some (j, want)⟩ :: rest) e :=
  HT.mk rfl (.inr fun a hf => .inl ⟨by rw [wanted_of hf (o := ⟨some d, op, ty, pos, af, some (j, want)⟩) rfl hsl hl]; cases want <;> rfl, rfl⟩) hfr h
theorem HT.gu {op : Op} {j s : Nat} {want : Bool} (hsl : gslot ops j = some s) (hl : Look e s undef) (hfr : fresh N e d = true) (h : HT P N C ops Q on tail hs I lt (k + 1) rest ((d, undef) :: e)) :
    HT P N C ops Q on tail hs I lt k (⟨some d, op, ty, pos, af, some (j, want)⟩ :: rest) e :=
  HT.mk rfl (.inr fun _ hf => .inl ⟨wanted_undef hf (o := ⟨some d, op, ty, pos, af, some (j, want)⟩) rfl hsl hl, rfl⟩) hfr h
theorem HT.callr {f : FuncId} {ars : List Operand} {ats : Array TypeId} {vs : List Value} {fo : Operand} {v : Value} (hg : GoFn P f) (hfo : EV e fo (.func (.func f) #[] #[])) (has : EVA e ars vs)
    (hC : ∀ w, Hb (C.sub w [] hs) w [] I → Ret P f vs (C.sub w [] hs) v) (hfr : fresh N e d = true) (h : HT P N C ops Q on tail hs I lt (k + 1) rest ((d, v) :: e)) (hlt : lt k = false := by rfl) :
    HT P N C ops Q on tail hs I lt k (⟨some d, .call ⟨.value fo, ars.toArray, ats⟩, ty, pos, af, none⟩ :: rest) e :=
  HT.mk rfl (.inl ⟨hlt, fun a hf => .inr ⟨rfl, fun w hb => by
    rw [run_call hg (hf.ev hfo) (hf.eva has)]
    refine (hC w (hb.pass (Split.none hs))).mono fun x w' hx => ?_
    obtain ⟨_, rfl, hbi⟩ := hx
    exact ⟨rfl, (hb.back (Split.none hs) hbi).imp fun _ h => h.1⟩⟩⟩) hfr h
theorem HT.cd {heads : List Oper} {s : Nat} {p : Prop} [Decidable p] {e1 e2 : Env} (hl : Look e s (.bool (decide p))) (h1 : Upd e s (.bool true) e1) (h2 : Upd e s (.bool false) e2)
    (ht : p → HT P N C ops Q on tail hs I lt k heads e1) (hf : ¬ p → HT P N C ops Q on tail hs I lt k heads e2) : HT P N C ops Q on tail hs I lt k heads e := by
  by_cases h : p
  · exact HT.mono h1.keys.symm (fun a ha => Fr.same hl (by simp [h]) h1 a ha) (ht h)
  · exact HT.mono h2.keys.symm (fun a ha => Fr.same hl (by simp [h]) h2 a ha) (hf h)
theorem HT.cb {heads : List Oper} {s : Nat} {b : Bool} {e1 e2 : Env} (hl : Look e s (.bool b)) (h1 : Upd e s (.bool true) e1) (h2 : Upd e s (.bool false) e2)
    (ht : b = true → HT P N C ops Q on tail hs I lt k heads e1) (hf : b = false → HT P N C ops Q on tail hs I lt k heads e2) : HT P N C ops Q on tail hs I lt k heads e :=
  HT.cd (p := b = true) (by simpa using hl) h1 h2 ht (fun h => hf (by simpa using h))
theorem HT.rw {heads : List Oper} {s : Nat} {v v' : Value} (hl : Look e s v) (hv : v = v') (h1 : Upd e s v' e') (h : HT P N C ops Q on tail hs I lt k heads e') : HT P N C ops Q on tail hs I lt k heads e :=
  HT.mono h1.keys.symm (fun a ha => Fr.same hl hv h1 a ha) h
theorem HT.alc {ι : Type} {op : Op} (v : ι → Value) (new : ι → List Chunk) (x0 : ι) (halc : Alc P N C e hs I ⟨some d, op, ty, pos, af, none⟩ v new) (hfr : fresh N e d = true) (h : ∀ x, WL P N C ops tail Q ((d, v x) :: e) (new x ++ hs) I) :
    HT P N C ops Q ⟨some d, op, ty, pos, af, none⟩ tail hs I lt k [] e :=
  ⟨ι, v, new, d, ⟨x0⟩, rfl, rfl, halc, fresh_inN hfr, fun x => by rw [putE_fresh hfr]; exact h x⟩
theorem fill_one {n : Nat} {v : Value} {l z : List Value} (hl : v.cells = l.toArray) (hn : l.length = n) (_hzn : z.length = n) : Instr.fill (fun i => some (i * n, n)) ((Array.range (1 * n)).map (z.toArray[· % z.toArray.size]!)) [(0, v)] = some l.toArray := by
  unfold Instr.fill
  simp only [hl, Nat.zero_mul, Nat.zero_add]
  have h4 : l.toArray.size = n := by simpa using hn
  have h5 : ((Array.range (1 * n)).map (z.toArray[· % z.toArray.size]!)).size = n := by simp
  rw [if_neg (by rw [h4, h5]; simp)]
  unfold Instr.fill
  congr 1
  apply Array.ext'
  have key : ∀ (vs : List Value) (k : Nat) (cs : Array Value), k + vs.length ≤ cs.size → ((vs.zipIdx k).foldl (fun cs (p : Value × Nat) => cs.setIfInBounds p.2 p.1) cs).toList = cs.toList.take k ++ vs ++ cs.toList.drop (k + vs.length) := by
    intro vs
    induction vs with
    | nil => intro k cs _; simp
    | cons v r ih =>
      intro k cs hk
      simp only [List.length_cons] at hk
      simp only [List.zipIdx_cons, List.foldl_cons]
      rw [ih (k + 1) _ (by simp; omega)]
      have hkl : k < cs.toList.length := by simp; omega
      simp only [Array.toList_setIfInBounds]
      rw [List.take_set, List.drop_set_of_lt (by omega)]
      rw [List.set_eq_take_append_cons_drop, if_pos (by simp; omega)]
      simp only [List.take_take, List.length_cons]
      rw [Nat.min_eq_left (by omega), List.drop_take]
      simp [show k + 1 + r.length = k + (r.length + 1) by omega]
  have := key l 0 _ (by rw [h5, hn]; omega)
  have h6 : List.drop n (List.map (fun x => z[x % z.length]?.getD default) (List.range n)) = [] := List.drop_eq_nil_of_le (by simp)
  simpa [hn, h5, h6] using this
/-- 'append(s, x)' lays x in a block of its own. -/
theorem HT.bs1 {t el n : Nat} {x : Operand} {v : Value} {l z : List Value} (ht : tSl P t el n = true) (hz : tZ P el z) (hzn : z.length = n) (h0 : n ≠ 0) (hsm : n ≤ 16777216) (hx : EV e x v) (hl : v.cells = l.toArray) (hn : l.length = n) (hfr : fresh N e d = true)
    (h : ∀ g, WL P N C ops tail Q ((d, .slice (some ⟨g, 0, none⟩) 1 1) :: e) (blk g el l :: hs) I) :
    HT P N C ops Q ⟨some d, .buildSlice t 1 #[(0, x)], ty, pos, af, none⟩ tail hs I lt k [] e := by
  refine HT.alc (ι := Nat) (fun g => .slice (some ⟨g, 0, none⟩) 1 1) (fun g => [blk g el l]) 0 (fun a w hf hb => ?_) hfr h
  obtain ⟨i, zv, h2, h3, h4⟩ := hz
  have hu := (tSl_spec ht).1
  have hsz := run_sizeOf' (tSl_spec ht).2 w
  have hfill : Instr.fill (fun i => some (i * n, n)) ((Array.range (1 * n)).map (z.toArray[· % z.toArray.size]!)) [(0, v)] = some l.toArray := fill_one hl hn hzn
  refine ⟨w.heap.size, w.alloc (.cells l.toArray el), ?_, hb.alloc _⟩
  simp [execOp, Instr.buildSlice, run_underlying hu, hsz, hf.ev hx, zeroValue, typeInfo, h2, h3, h4, h0, newRow]
  simp at hfill
  rw [if_neg (by omega), hfill]
  simp
end
end
end Go.Eng

namespace Go.Eng
open Go Go.RowKit
section
variable {P : Program} {N : Nat} {C : Cx} {Q : Exit → Act → World → Prop} {e e' : Env} {hs hs' : List Chunk} {I : World → Prop}
/-- A block that is known whole is a row of its own, of any length. -/
theorem chunk_toRowN {w : World} {g t size n c : Nat} {xs : List Value} (h : (blk g t xs).holds w) (hl : xs.length = c * size) (hn : n ≤ c) (hm : c ≤ maxLen) : (Chunk.row (.slice (some ⟨g, 0, none⟩) n c) t size n (xs.take (n * size))).holds w :=
  ⟨by rw [List.length_take, hl]; exact Nat.min_eq_left (Nat.mul_le_mul_right _ hn), .inr ⟨g, c, xs.toArray, rfl, Nat.zero_le _, h, hn, hm, by simpa using hl, rfl⟩⟩
theorem WL.toRowN {ops : Array Oper} {l : List Oper} {g t size n c : Nat} {xs ys : List Value} (hc : Cup hs (blk g t xs) (.row (.slice (some ⟨g, 0, none⟩) n c) t size n ys) hs') (hl : xs.length = c * size) (hn : n ≤ c) (hm : c ≤ maxLen) (hy : ys = xs.take (n * size)) (h : WL P N C ops l Q e hs' I) : WL P N C ops l Q e hs I :=
  fun a w hf hb => h a w hf (by
    subst hy
    exact hb.turn hc (Ext.refl _ _ _) (chunk_toRowN (hb.hp.hold _ hc.mem) hl hn hm) (fun _ hg => .inl hg))
section
variable {d : Tmp} {ty : TypeId} {pos : String} {af : Array Edge} {ops : Array Oper} {rest : List Oper}
/-- 'make([]T, n, c)', T of one cell: a row of the call's own. -/
theorem WL.mkr {t el by_ : Nat} {x y : Operand} {z : Value} {m r : Int} {n c : Nat} {kl kc : IntKind} (ht : AppTy P t el 1 by_) (hz : tZ P el [z]) (hx : EV e x (.int kl m)) (hy : EV e y (.int kc r)) (hm : m = (n : Int)) (hr : r = (c : Int)) (hnc : n ≤ c)
    (hby : by_ * c ≤ 281474976710656) (h63 : c ≤ 9223372036854775807) (hfr : fresh N e d = true)
    (h : ∀ g, WL P N C ops rest Q ((d, .slice (some ⟨g, 0, none⟩) n c) :: e) (.row (.slice (some ⟨g, 0, none⟩) n c) el 1 n (List.replicate n z) :: hs) I) :
    WL P N C ops (⟨some d, .makeSlice t x y, ty, pos, af, none⟩ :: rest) Q e hs I :=
  WL.mks ht hz hx hy hm hr hnc hby h63 hfr fun g => WL.toRowN (size := 1) C0 (by simp) hnc (by unfold maxLen; omega) (by simp [Nat.min_eq_left hnc]) (h g)
/-- an empty slice of its own -/
theorem WL.bs0 {t el s : Nat} (ht : tSl P t el s = true) (hfr : fresh N e d = true)
    (h : ∀ g, WL P N C ops rest Q ((d, .slice (some ⟨g, 0, none⟩) 0 0) :: e) (.row (.slice (some ⟨g, 0, none⟩) 0 0) el s 0 [] :: hs) I) :
    WL P N C ops (⟨some d, .buildSlice t 0 #[], ty, pos, af, none⟩ :: rest) Q e hs I := by
  intro a w hf hb
  have hu := (tSl_spec ht).1
  have hsz := run_sizeOf' (tSl_spec ht).2 w
  have hr : (execOp a.eval ⟨some d, .buildSlice t 0 #[], ty, pos, af, none⟩).run P w = .ok (.value (.slice (some ⟨w.heap.size, 0, none⟩) 0 0)) (w.alloc (.cells #[] el)) := by
    simp [execOp, Instr.buildSlice, run_underlying hu, hsz, Instr.fill, newRow]
    rw [show Array.range 0 = #[] from rfl, Array.map_empty]
  refine wl_step rfl hr ?_
  exact WL.toRowN (xs := []) (size := s) (n := 0) (c := 0) C0 (by simp) (Nat.le_refl _) (by unfold maxLen; omega) (by simp) (h w.heap.size) _ _ (hf.put hfr) (hb.alloc _)
end
theorem ofInt64i {m : Nat} (hm : m < 9223372036854775808) : (BitVec.ofInt 64 (m : Int)).toNat = m := by
  rw [BitVec.ofInt_natCast, BitVec.toNat_ofNat]
  exact Nat.mod_eq_of_lt (by omega)
theorem ei64_or {m n : Nat} (hm : m < 9223372036854775808) (hn : n < 9223372036854775808) : Op.intBits .or .i64 (m : Int) (n : Int) = pure (.int .i64 ((m ||| n : Nat) : Int)) := by
  have h1 : m ||| n < 2 ^ 63 := Nat.or_lt_two_pow (by omega) (by omega)
  have h2 : (BitVec.ofInt 64 (m : Int) ||| BitVec.ofInt 64 (n : Int)).toNat = m ||| n := by rw [BitVec.toNat_or, ofInt64i hm, ofInt64i hn]
  show pure (Value.int .i64 (IntKind.i64.wrap ((BitVec.ofInt 64 (m : Int) ||| BitVec.ofInt 64 (n : Int)).toNat : Int))) = _
  rw [h2, wi (by omega) (by omega)]
/-- k<<4 | n -/
theorem i64_or16 {k n : Int} (hk : 0 ≤ k ∧ k ≤ 100) (hn : 0 ≤ n ∧ n < 16) : Op.intBits .or .i64 (k * 16) n = pure (.int .i64 (k * 16 + n)) := by
  obtain ⟨a, rfl⟩ := Int.eq_ofNat_of_zero_le hk.1
  obtain ⟨b, rfl⟩ := Int.eq_ofNat_of_zero_le hn.1
  have h1 := ei64_or (m := a * 16) (n := b) (by omega) (by omega)
  have h2 : a * 16 ||| b = b + a * 2 ^ 4 := by rw [Nat.or_comm]; exact or_add (s := 4) (by omega)
  rw [h2] at h1
  have h3 : ((b + a * 2 ^ 4 : Nat) : Int) = (a : Int) * 16 + b := by omega
  rw [h3] at h1
  rw [← h1]
  congr 1
theorem i64_shl4 {k : Int} (hk : 0 ≤ k ∧ k ≤ 100) : IntKind.i64.wrap (k * 2 ^ (min (4 : Int).toNat IntKind.i64.bits)) = k * 16 := by
  have h : min (4 : Int).toNat IntKind.i64.bits = 4 := rfl
  rw [h]
  exact wi (by omega) (by omega)
theorem u8_or128 {m : Nat} (h : m < 256) : m ||| 128 = m % 128 + 128 := by
  have h1 : m % 128 ||| (m / 128 * 2 ^ 7) = m % 128 + m / 128 * 2 ^ 7 := or_add (s := 7) (Nat.mod_lt _ (by omega))
  have h2 : m % 128 ||| (1 * 2 ^ 7) = m % 128 + 1 * 2 ^ 7 := or_add (s := 7) (Nat.mod_lt _ (by omega))
  have h3 : m = m % 128 ||| (m / 128 * 2 ^ 7) := by rw [h1]; omega
  have h4 : m / 128 = 0 ∨ m / 128 = 1 := by omega
  rw [h3]
  rcases h4 with h4 | h4
  · rw [h4, show 0 * 2 ^ 7 = 0 from rfl, Nat.or_zero]
    rw [show (128 : Nat) = 1 * 2 ^ 7 from rfl, h2]
    have : m % 128 < 1 * 2 ^ 7 := Nat.mod_lt _ (by omega)
    rw [Nat.mod_eq_of_lt this]
  · rw [h4, Nat.or_assoc, show (1 * 2 ^ 7 ||| 128 : Nat) = 1 * 2 ^ 7 from rfl, h2]
    have : m % 128 < 128 := Nat.mod_lt _ (by omega)
    omega
theorem u8_hi {m : Nat} (hm : m < 256) : Op.intBits .or .u8 (m : Int) 128 = pure (.int .u8 ((m % 128 + 128 : Nat) : Int)) := by
  have := eu8_or (m := m) (n := 128) hm (by omega)
  rw [show m ||| 128 = m % 128 + 128 from u8_or128 hm] at this
  exact this
theorem wu8m {m : Nat} : IntKind.u8.wrap (m : Int) = ((m % 256 : Nat) : Int) := by
  have h : IntKind.u8.wrap (m : Int) = (m : Int) % 256 := by simp [IntKind.wrap, IntKind.bits, IntKind.signed]
  rw [h]
  omega
theorem shr7 (m : Nat) : ((m : Int)).fdiv (2 ^ (min (7 : Int).toNat IntKind.u64.bits)) = ((m / 128 : Nat) : Int) := by
  have h : min (7 : Int).toNat IntKind.u64.bits = 7 := rfl
  rw [h, Int.fdiv_eq_ediv_of_nonneg _ (by decide)]
  omega
theorem ofNat_cell {z : Int} (h : 0 ≤ z ∧ z < 256) : ((UInt8.ofNat z.toNat).toNat : Int) = z := by
  have : (UInt8.ofNat z.toNat).toNat = z.toNat % 256 := by simp
  omega
theorem bcells_app (a b : List UInt8) : bcells (a ++ b) = bcells a ++ bcells b := by simp [bcells]
theorem chunk_bytes {A : Option Addr} {n c t : Nat} {xs : List Value} {l : List UInt8} (hn : n = l.length) (hx : xs = bcells l) : Chunk.row (.slice A n c) t 1 n xs = .row (.slice A l.length c) t 1 l.length (bcells l) := by subst hn hx; rfl
theorem pair_bool {v : Value} {a b : Bool} (h : a = b) : resVal [v, .bool a] = .tuple #[v, .bool b] := by subst h; rfl
theorem pair_int {v : Value} {k : IntKind} {a b : Int} (h : a = b) : resVal [v, .int k a] = .tuple #[v, .int k b] := by subst h; rfl
theorem rdB_row {w : World} {A : Option Addr} {c t : Nat} {l : List UInt8} (h : (Chunk.row (.slice A l.length c) t 1 l.length (bcells l)).holds w) : RdB w A l := Rd.of_row h
theorem rdB_rowN {w : World} {A : Option Addr} {n c t : Nat} {xs : List Value} {l : List UInt8} (h : (Chunk.row (.slice A n c) t 1 n xs).holds w) (hn : n = l.length) (hx : xs = bcells l) : RdB w A l := by subst hn hx; exact Rd.of_row h
end
end Go.Eng
