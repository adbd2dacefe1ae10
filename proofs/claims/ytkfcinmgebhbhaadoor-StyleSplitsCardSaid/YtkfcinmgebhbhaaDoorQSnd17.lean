/-
  Lists of operations; regions.
-/
import Derived.Test.YtkfcinmgebhbhaaDoorQSnd16
namespace Go.Lf
open Go Go.Eng

theorem wanted_of {N : Nat} {e : Env} {ops : Array Oper} {o : Oper} {j s : Nat} {want b : Bool} {a : Act} (hf : Fr a N e) (hgd : o.guard = some (j, want)) (hs : (ops[j]?).bind (·.dst) = some s) (hl : Look e s (.bool b)) :
    Region.wanted o (yielded ops a.tmps) = (b == want) := by
  have h1 := hf.look hl
  have h2 : a.tmps[s]? = some (.bool b) := by
    cases h : a.tmps[s]? with
    | none => rw [Array.getD_eq_getD_getElem?, h] at h1; simp [undef] at h1
    | some x => rw [Array.getD_eq_getD_getElem?, h] at h1; simpa using h1
  simp only [Region.wanted, hgd, yielded, hs, Option.bind_some, h2]
  cases b <;> cases want <;> rfl
theorem wanted_undef {N : Nat} {e : Env} {ops : Array Oper} {o : Oper} {j s : Nat} {want : Bool} {a : Act} (hf : Fr a N e) (hgd : o.guard = some (j, want)) (hs : (ops[j]?).bind (·.dst) = some s) (hl : Look e s undef) :
    Region.wanted o (yielded ops a.tmps) = false := by
  have h1 := hf.look hl
  simp only [Region.wanted, hgd, yielded, hs, Option.bind_some]
  cases h : a.tmps[s]? with
  | none => rfl
  | some x =>
    rw [Array.getD_eq_getD_getElem?, h] at h1
    have h2 : x = undef := by simpa using h1
    subst h2
    rfl
theorem putl_same {α : Type} {l : List (Nat × α)} {k : Nat} {v : α} (h : look l k = some v) : putl l k v = l := by
  induction l with
  | nil => cases h
  | cons p r ih =>
    rw [show p = (p.1, p.2) from rfl, look_cons] at h
    rw [show p = (p.1, p.2) from rfl, putl_cons]
    split at h
    · rename_i he
      simp only [Option.some.injEq] at h
      rw [if_pos he, ← h, ← he]
    · rename_i he
      rw [if_neg he, ih h]

section
variable {P : Program} {N : Nat} {C : Cx} {G : World → Prop} {c : Ctx} {S : St} {Rt : Type} {k : St → Option Rt} {r : Rt} {a : Act} {w : World}
variable {W : Wit} {e : Env} {eh oh : List Chunk} {K : Act → Prop} {Q : Exit → Act → World → Prop}

theorem OpWp.wp {o : Oper} {S' : St} {next : Act → World → Prop} (h : OpWp P N C G o S' a w) (hn : ∀ v w', At N C G S' (a.put o.dst v) w' → next (a.put o.dst v) w') : o.wp P a w next Q := by
  unfold OpWp at h
  unfold Oper.wp
  generalize (execOp a.eval o).run P w = x at h
  cases x with
  | halt x w2 => exact h.elim
  | ok x w2 =>
    cases x <;> first | exact h.elim | skip
    · exact hn _ _ h
    · exact hn _ _ h
    · exact Calls.mono h fun y w3 hy => by
        obtain ⟨v, rfl, h4⟩ := hy
        exact hn _ _ h4

theorem dstOf_eq {all : List Oper} {j s : Nat} (h : dstOf all j = some s) : (all.toArray[j]?).bind (·.dst) = some s := by
  unfold dstOf at h
  split at h
  · rename_i o ho
    simp [ho, h]
  · cases h

theorem vbool_eq {b : Ty.den .bool} {want : Bool} (h : b = want) : D.v .bool b = vBool want := by subst h; rfl

theorem opsE_ok (hc : CtxOk P G c) (hn : c.n = N) {all : List Oper} : ∀ (l : List Oper) (S : St), opsE c all l S k = some r → (∀ o ∈ l, ∀ v a, K a → K (a.put o.dst v)) → (∀ S', k S' = some r → ∀ a w, At N C G S' a w → K a → Q .normal a w) →
    ∀ a w, At N C G S a w → K a → wpList P all.toArray Q l a w
  | [], S, h, _, hQ => fun a w hat ha => wpList_nil (hQ S h a w hat ha)
  | o :: l, S, h, hK, hQ => fun a w hat ha => by
    have hK1 := hK o List.mem_cons_self
    have hK2 : ∀ o ∈ l, ∀ v a, K a → K (a.put o.dst v) := fun o ho => hK o (List.mem_cons_of_mem _ ho)
    have step : ∀ S2, opE c o S2 (fun S' => opsE c all l S' k) = some r → At N C G S2 a w → ∀ KK : Act → World → Prop, (∀ a w, wpList P all.toArray Q l a w → KK a w) → o.wp P a w KK Q := fun S2 h2 hat2 KK hKK => by
      obtain ⟨S', g1, g2⟩ := opE_ok (N := N) (C := C) hc hn h2
      exact (g2 a w hat2).wp fun v w' hv => hKK _ _ (opsE_ok hc hn l S' g1 hK2 hQ _ _ hv (hK1 v a ha))
    unfold opsE at h
    split at h
    · rename_i hg
      exact wpList_plain hg fun KK hKK => step S h hat KK hKK
    · rename_i j want hg
      split at h
      case h_2 => cases h
      case h_1 s d hs hd =>
      have skip : ∀ S2, Nat.blt d c.n = true → opsE c all l (S2.put d .udf) k = some r → At N C G S2 a w → ∀ KK : Act → World → Prop, (∀ a w, wpList P all.toArray Q l a w → KK a w) → KK (a.put o.dst undef) w := fun S2 hb2 h2 hat2 KK hKK => by
        obtain ⟨W, e, eh, oh, q1, q2, q3⟩ := hat2
        refine hKK _ _ (opsE_ok hc hn l _ h2 hK2 hQ _ _ ?_ (hK1 undef a ha))
        rw [hd]
        exact At.put (h := []) q1 q2 q3 (D' := .udf) (v := undef) ⟨rfl, rfl⟩ (hn ▸ blt_ok hb2)
      split at h
      · rename_i b hl
        obtain ⟨W, e, eh, oh, q1, q2, q3⟩ := id hat
        obtain ⟨v, h', _, g1, g2, _⟩ := q1.env.look hl
        obtain ⟨cs, _, g3, g4⟩ := g2
        obtain ⟨rfl, _⟩ := g4
        subst g3
        have hw := wanted_of q2 hg (dstOf_eq hs) (b := b) g1
        refine wpList_step fun KK hKK => ?_
        rw [hw]
        have hb : (bif want then b else !b) = (b == want) := by cases want <;> cases (b : Bool) <;> rfl
        rw [hb] at h
        cases hbw : ((b : Bool) == want) with
        | true =>
          rw [hbw] at h
          have hbe : b = want := by simpa using hbw
          have e1 : S.put s (vBool want) = S := by
            unfold St.put
            rw [putl_same (by rw [← vbool_eq hbe]; exact hl)]
          rw [e1] at h
          simp only [if_true]
          exact step S h hat KK hKK
        | false =>
          rw [hbw] at h
          have hbe : b = !want := by cases want <;> cases (b : Bool) <;> simp_all
          have e1 : S.put s (vBool (!want)) = S := by
            unfold St.put
            rw [putl_same (by rw [← vbool_eq hbe]; exact hl)]
          rw [e1] at h
          simp only [cond_false] at h
          simp only [Bool.false_eq_true, if_false]
          cases hb2 : Nat.blt d c.n with
          | false => rw [hb2] at h; cases h
          | true => rw [hb2] at h; exact skip S hb2 h hat KK hKK
      · rename_i hl
        obtain ⟨W, e, eh, oh, q1, q2, q3⟩ := id hat
        obtain ⟨v, h', _, g1, g2, _⟩ := q1.env.look hl
        obtain ⟨rfl, _⟩ := g2
        have hw := wanted_undef q2 hg (dstOf_eq hs) g1
        refine wpList_step fun KK hKK => ?_
        rw [hw]
        simp only [Bool.false_eq_true, if_false]
        cases hb2 : Nat.blt d c.n with
        | false => rw [hb2] at h; cases h
        | true => rw [hb2] at h; exact skip S hb2 h hat KK hKK
      · cases h

/-! ### Regions that draw their order -/
/-- A head: in every world of the state it yields this value and leaves a world of the state. -/
def Head (P : Program) (N : Nat) (C : Cx) (ops : Array Oper) (e : Env) (hs : List Chunk) (I : World → Prop) (o : Oper) (v : Value) : Prop :=
  ∀ a, Fr a N e → (Region.wanted o (yielded ops a.tmps) = false ∧ v = undef) ∨
    (Region.wanted o (yielded ops a.tmps) = true ∧ ∀ w, Hb C w hs I →
      match (execOp a.eval o).run P w with
      | .ok (.value u) w' => u = v ∧ Hb C w' hs I
      | .ok (.enter f args) w' => Calls P f args w' fun x w'' => x = .returned v ∧ Hb C w'' hs I
      | _ => False)
def putOE (e : Env) (d : Option Tmp) (v : Value) : Env := match d with
  | some d => putl e d v
  | none => e
def envs (hl : List (Oper × Value)) (i : Nat) (e : Env) : Env := (hl.take i).foldl (fun e p => putOE e p.1.dst p.2) e
theorem putsK {hl : List (Oper × Value)} (hK : ∀ p ∈ hl, ∀ a, K a → K (a.put p.1.dst p.2)) : ∀ (L : Nat → Bool) (i : Nat) (a : Act), K a → K (puts hl L i a) := by
  induction hl with
  | nil => intro L i a h; exact h
  | cons p r ih =>
    intro L i a h
    obtain ⟨o, v⟩ := p
    unfold puts
    refine ih (fun p hp => hK p (List.mem_cons_of_mem _ hp)) L (i + 1) _ ?_
    split
    · exact hK _ List.mem_cons_self a h
    · exact h

theorem envs_fr {hl : List (Oper × Value)} (hd : Distinct hl) {a : Act} (hf : Fr a N e) (h : ∀ (i : Nat) (o : Oper) (v : Value), hl[i]? = some (o, v) → ∃ d, o.dst = some d ∧ d < N) :
    ∀ i, i ≤ hl.length → Fr (puts hl (fun j => decide (j < i)) 0 a) N (envs hl i e)
  | 0, _ => by
    rw [puts_congr hl _ (fun _ => false) 0 a fun j _ => by simp]
    have : ∀ (l : List (Oper × Value)) k b, puts l (fun _ => false) k b = b := fun l => by
      induction l with
      | nil => intro k b; rfl
      | cons p r ih => intro k b; unfold puts; simp [ih]
    rw [this]
    simpa [envs] using hf
  | i + 1, hi => by
    have ih := envs_fr hd hf h i (by omega)
    have hlt : i < hl.length := by omega
    obtain ⟨⟨o, v⟩, hov⟩ : ∃ p, hl[i]? = some p := ⟨_, List.getElem?_eq_getElem hlt⟩
    obtain ⟨d, hod, hdN⟩ := h i o v hov
    have hst := puts_step hd (L := fun j => decide (j < i)) hov (by simp) a
    have h1 : puts hl (fun j => decide (j < i + 1)) 0 a = (puts hl (fun j => decide (j < i)) 0 a).put o.dst v := by
      rw [hst]
      refine puts_congr hl _ _ 0 a fun j _ => ?_
      simp only [Nat.zero_add]
      rw [Bool.eq_iff_iff]
      simp
      omega
    rw [h1]
    have h2 : envs hl (i + 1) e = putOE (envs hl i e) o.dst v := by
      unfold envs
      rw [List.take_add_one, hov]
      simp
    rw [h2, hod]
    exact fr_putl ih hdN

/-- what a region's order needs of its heads -/
structure HeadForm0 (l : List Oper) (n : Nat) : Prop where
  nosel : Region.noSelect l.toArray = true
  le : n ≤ l.length
  edge : ∀ (i : Nat) (o : Oper), l.toArray[i]? = some o → ∀ x ∈ o.after, Region.binds .any x = true → x.on < i
  dist : ∀ (i j : Nat) (oi oj : Oper) (s : Nat), i < n → j < n → l[i]? = some oi → l[j]? = some oj → i ≠ j → oj.dst = some s → oi.dst ≠ some s ∧ (s ∈ oi.looksAt l.toArray → (j < i ∧ Region.waitsFor .any l.toArray i j = true) ∨ (i < j ∧ Region.waitsFor .any l.toArray j i = true))
  tail : n = l.length ∨ Region.chainB .any l.toArray n = true

theorem head_slot {l : List Oper} {n : Nat} (hF : HeadForm0 l n) {hl : List (Oper × Value)} (hdist : Distinct hl) (hget : ∀ (i : Nat) (o : Oper) (v : Value), hl[i]? = some (o, v) → l[i]? = some o) (hin : ∀ (i : Nat) (o : Oper) (v : Value), hl[i]? = some (o, v) → i < n)
    {listed : Array Bool} (closed : ∀ j oj, l.toArray[j]? = some oj → listed.getD j false = true → ∀ e ∈ oj.after, Region.binds .any e = true → listed.getD e.on false = true) {a : Act} {i : Nat} {o' : Oper} {v : Value} (hov : hl[i]? = some (o', v)) (ho : l.toArray[i]? = some o') (hLi : listed.getD i false = false)
    (hdeps : ∀ x ∈ o'.after, Region.binds .any x = true → listed.getD x.on false = true) : ∀ s ∈ o'.looksAt l.toArray, (puts hl (fun j => listed.getD j false) 0 a).tmps[s]? = (puts hl (fun j => decide (j < i)) 0 a).tmps[s]? := by
  have hin' := hin _ _ _ hov
  intro s hs
  by_cases hssz : s < a.tmps.size
  · by_cases hex3 : ∃ j oj vj, hl[j]? = some (oj, vj) ∧ j ≠ i ∧ oj.dst = some s
    · obtain ⟨j, oj, vj, hj, hji, hds⟩ := hex3
      have h1 := (hF.dist i j o' oj s hin' (hin _ _ _ hj) (hget _ _ _ hov) (hget _ _ _ hj) (Ne.symm hji) hds).2 hs
      have hun2 : ∀ (k : Nat) (o2 : Oper) (v2 : Value), hl[k]? = some (o2, v2) → k ≠ j → o2.dst ≠ some s := fun k o2 v2 hk hkj hd2 => hdist k j o2 v2 oj vj s hk hj hkj hd2 hds
      rcases h1 with h1 | h1
      · obtain ⟨oi2, hoi2, x, hx, hbx, hon⟩ := Region.waitsFor_spec h1.2
        have : oi2 = o' := Option.some.inj (hoi2.symm.trans ho)
        subst this
        have h2 := hdeps x hx hbx
        rw [hon] at h2
        rw [puts_some hl _ s 0 a j oj vj hj (by simpa using h2) hds hssz hun2, puts_some hl _ s 0 a j oj vj hj (by simpa using h1.1) hds hssz hun2]
      · obtain ⟨oj2, hoj2, x, hx, hbx, hon⟩ := Region.waitsFor_spec h1.2
        have hjl : listed.getD j false = false := by
          cases hg2 : listed.getD j false with
          | false => rfl
          | true =>
            have h2 := closed j oj2 hoj2 hg2 x hx hbx
            rw [hon, hLi] at h2
            cases h2
        have h3 : ∀ (L : Nat → Bool), L j = false → (puts hl L 0 a).tmps[s]? = a.tmps[s]? := fun L hL => puts_none hl L s 0 a fun k ok vk hk hLk hdk => by
          by_cases hkj : k = j
          · subst hkj
            rw [Nat.zero_add, hL] at hLk
            cases hLk
          · exact hun2 k ok vk hk hkj hdk
        rw [h3 _ hjl, h3 _ (by simp; omega)]
    · have h3 : ∀ (L : Nat → Bool), L i = false → (puts hl L 0 a).tmps[s]? = a.tmps[s]? := fun L hL => puts_none hl L s 0 a fun j oj vj hj hLj hds => by
        by_cases hji : j = i
        · subst hji
          rw [Nat.zero_add, hL] at hLj
          cases hLj
        · exact hex3 ⟨j, oj, vj, hj, hji, hds⟩
      rw [h3 _ hLi, h3 _ (by simp)]
  · have hz : ∀ L : Nat → Bool, (puts hl L 0 a).tmps[s]? = none := fun L => by
      have h5 := (puts_size hl L 0 a).1
      rw [Array.getElem?_eq_none_iff, h5]
      exact Nat.le_of_not_lt hssz
    rw [hz, hz]
theorem head_same {l : List Oper} (hsel' : Region.noSelect l.toArray = true) {b b' : Act} {i : Nat} {o' : Oper} (ho : l.toArray[i]? = some o') (hslot : ∀ s ∈ o'.looksAt l.toArray, b.tmps[s]? = b'.tmps[s]?) :
    execOp b.eval o' = execOp b'.eval o' ∧ Region.wanted o' (yielded l.toArray b.tmps) = Region.wanted o' (yielded l.toArray b'.tmps) := by
  have hsel : ∀ cs b, o'.op ≠ .select cs b := fun cs b => Region.noSelect_spec hsel' i o' cs b ho
  refine ⟨execOp_congr o' hsel fun x hx => ?_, ?_⟩
  · cases x with
    | tmp t =>
      have hmem : t ∈ o'.looksAt l.toArray := List.mem_append_left _ (List.mem_filterMap.2 ⟨.tmp t, by simpa using hx, rfl⟩)
      have := hslot t hmem
      show b.tmps.getD t undef = b'.tmps.getD t undef
      rw [Array.getD_eq_getD_getElem?, Array.getD_eq_getD_getElem?, this]
    | _ => rfl
  · unfold Region.wanted
    cases hgd : o'.guard with
    | none => rfl
    | some p =>
      obtain ⟨g, want⟩ := p
      simp only
      congr 1
      unfold yielded
      cases hdg : (l.toArray[g]?).bind (·.dst) with
      | none => rfl
      | some s =>
        have hmem : s ∈ o'.looksAt l.toArray := by
          refine List.mem_append_right _ ?_
          simp only [hgd, hdg]
          simp
        simp only [Option.bind_some]
        rw [hslot s hmem]
/-- the least head that is left is ready -/
theorem head_ready {l : List Oper} {n : Nat} (hF : HeadForm0 l n) {listed : Array Bool} (hsz : listed.size = l.toArray.size) : ∀ k j, j < n → listed.getD j false = false → j ≤ k → ∃ i, i ∈ Region.ready .any l.toArray listed := by
  have hle := hF.le
  have hsize : l.toArray.size = l.length := by simp
  intro k
  induction k with
  | zero =>
    intro j hj hg hjk
    have hj0 : j = 0 := by omega
    subst hj0
    have hlt : 0 < l.toArray.size := by rw [hsize]; omega
    refine ⟨0, mem_ready.2 ⟨getD_in (by rw [hsz]; exact hlt) hg, _, Array.getElem?_eq_getElem hlt, fun x hx hbx => ?_⟩⟩
    have := hF.edge 0 _ (Array.getElem?_eq_getElem hlt) x hx hbx
    omega
  | succ k ihk =>
    intro j hj hg hjk
    have hlt : j < l.toArray.size := by rw [hsize]; omega
    by_cases hd : ∀ x ∈ (l.toArray[j]).after, Region.binds .any x = true → listed.getD x.on false = true
    · exact ⟨j, mem_ready.2 ⟨getD_in (by rw [hsz]; exact hlt) hg, _, Array.getElem?_eq_getElem hlt, fun x hx hbx => hd x hx hbx⟩⟩
    · have hex2 : ∃ x ∈ (l.toArray[j]).after, Region.binds .any x = true ∧ listed.getD x.on false = false := by
        apply Classical.byContradiction
        intro hno
        refine hd fun x hx hbx => ?_
        cases hg2 : listed.getD x.on false with
        | true => rfl
        | false => exact absurd ⟨x, hx, hbx, hg2⟩ hno
      obtain ⟨x, hx, hbx, hg2⟩ := hex2
      have := hF.edge j _ (Array.getElem?_eq_getElem hlt) x hx hbx
      exact ihk x.on (by omega) hg2 (by omega)

theorem draw_gen {id : Nat} {l : List Oper} {n : Nat} {hs : List Chunk} {I : World → Prop} (hm : P.follows .mixedOrders = true) (hF : HeadForm0 l n) {hl : List (Oper × Value)} (hmap : hl.map (·.1) = l.take n)
    (hhead : ∀ i o v, hl[i]? = some (o, v) → Head P N C l.toArray (envs hl i e) hs I o v ∧ ∃ d, o.dst = some d ∧ d < N) (hKh : ∀ p ∈ hl, ∀ a, K a → K (a.put p.1.dst p.2))
    (htail : ∀ a w, Fr a N (envs hl hl.length e) → Hb C w hs I → K a → wpList P l.toArray Q (l.drop n) a w) 
    (hesc : ∀ a, Fr a N e → K a → ∀ (listed : Array Bool) (fuel : Nat) (w' : World), HeadInv .any l.toArray n listed → Hb C w' hs I → (∃ j, j < n ∧ listed.getD j false = false) → (l.length - n) + (List.range n).countP (fun i => !listed.getD i true) ≤ fuel + 1 → ∀ i ∈ Region.ready .any l.toArray listed, n ≤ i → wpOp P l.toArray Q i (wpAny P .any l.toArray Q fuel (listed.setIfInBounds i true)) (puts hl (fun j => listed.getD j false) 0 a) w') :
    ∀ a w, Fr a N e → Hb C w hs I → K a → (Code.region id l.toArray true).wp P Q a w := by
  intro a w hf hb ha
  refine wp_region_any hm ?_
  have hlen : hl.length = n := by
    have := congrArg List.length hmap
    simp at this
    have := hF.le
    omega
  rw [hlen] at htail
  have hget : ∀ (i : Nat) (o : Oper) (v : Value), hl[i]? = some (o, v) → l[i]? = some o := fun i o v hi => by
    have h1 : (hl.map (·.1))[i]? = some o := by simp [hi]
    rw [hmap, List.getElem?_take] at h1
    split at h1
    · exact h1
    · cases h1
  have hin : ∀ (i : Nat) (o : Oper) (v : Value), hl[i]? = some (o, v) → i < n := fun i o v hi => by
    have := (List.getElem?_eq_some_iff.1 hi).1
    omega
  have hdist : Distinct hl := fun i j o v o' v' s hi hj hij hds => (hF.dist j i o' o s (hin _ _ _ hj) (hin _ _ _ hi) (hget _ _ _ hj) (hget _ _ _ hi) (Ne.symm hij) hds).1
  have hfr := envs_fr hdist hf fun i o v hi => (hhead i o v hi).2
  have hsize : l.toArray.size = l.length := by simp
  -- the state
  have main : ∀ (fuel : Nat) (listed : Array Bool) (w' : World), HeadInv .any l.toArray n listed → Hb C w' hs I →
      (l.length - n) + (List.range n).countP (fun i => !listed.getD i true) ≤ fuel →
      wpAny P .any l.toArray Q fuel listed (puts hl (fun j => listed.getD j false) 0 a) w' := by
    intro fuel
    induction fuel with
    | zero =>
      intro listed w' inv hb' hfu
      have hall : ∀ j, j < n → listed.getD j false = true := fun j hj => by
        have h1 : (List.range n).countP (fun i => !listed.getD i true) = 0 := by omega
        have h2 := List.countP_eq_zero.1 h1 j (List.mem_range.2 hj)
        rw [← getD_tf (by rw [inv.size, hsize]; have := hF.le; omega)]
        simpa using h2
      refine chain_any hF.edge (hF.tail.imp (fun h => by rw [hsize]; exact h) (fun h => h)) 0 n listed _ w' (Nat.le_refl _) (by rw [hsize]; exact hF.le) inv.size (fun j hj => ?_) (by rw [hsize]; omega) ?_
      · by_cases hjn : j < n
        · rw [hall j hjn]; simp [hjn]
        · rw [← getD_tf (by rw [inv.size]; exact hj)]
          have h1 := inv.tail j (by omega) hj
          have h2 : listed.getD j false = false := getD_both h1
          rw [getD_tf (by rw [inv.size]; exact hj), h2]
          simp [hjn]
      · have h1 := htail _ w' (hfr n (by omega)) hb' (putsK hKh _ _ _ ha)
        rw [puts_congr hl _ (fun j => decide (j < n)) 0 a fun j hj => by
          simp only [Nat.zero_add]
          rw [hall j (by omega)]
          simp [show j < n by omega]]
        exact h1
    | succ fuel ih =>
      intro listed w' inv hb' hfu
      by_cases hall : ∀ j, j < n → listed.getD j false = true
      · have h0 : (List.range n).countP (fun i => !listed.getD i true) = 0 := List.countP_eq_zero.2 fun j hj => by
          have hj' := List.mem_range.1 hj
          rw [getD_tf (by rw [inv.size, hsize]; have := hF.le; omega), hall j hj']
          simp
        refine chain_any hF.edge (hF.tail.imp (fun h => by rw [hsize]; exact h) (fun h => h)) (fuel + 1) n listed _ w' (Nat.le_refl _) (by rw [hsize]; exact hF.le) inv.size (fun j hj => ?_) (by rw [hsize]; omega) ?_
        · by_cases hjn : j < n
          · rw [hall j hjn]; simp [hjn]
          · have h1 := inv.tail j (by omega) hj
            rw [getD_both h1]
            simp [hjn]
        · have h1 := htail _ w' (hfr n (by omega)) hb' (putsK hKh _ _ _ ha)
          rw [puts_congr hl _ (fun j => decide (j < n)) 0 a fun j hj => by
            simp only [Nat.zero_add]
            rw [hall j (by omega)]
            simp [show j < n by omega]]
          exact h1
      · -- some head is left
        have hex : ∃ j, j < n ∧ listed.getD j false = false := by
          apply Classical.byContradiction
          intro hno
          refine hall fun j hj => ?_
          cases hg : listed.getD j false with
          | true => rfl
          | false => exact absurd ⟨j, hj, hg⟩ hno
        have hleN := hF.le
        have hne : Region.ready .any l.toArray listed ≠ [] := by
          obtain ⟨j, hj, hg⟩ := hex
          obtain ⟨i, hi⟩ := head_ready hF inv.size j j hj hg (Nat.le_refl _)
          intro h0
          rw [h0] at hi
          cases hi
        refine ⟨fun h0 => absurd h0 hne, fun i hi => ?_⟩
        rcases Nat.lt_or_ge i n with hin' | hge
        case inr => exact hesc a hf ha listed fuel w' inv hb' hex hfu i hi hge
        obtain ⟨hun, o, ho, hdeps⟩ := mem_ready.1 hi
        obtain ⟨⟨o', v⟩, hov⟩ : ∃ p, hl[i]? = some p := ⟨_, List.getElem?_eq_getElem (by omega)⟩
        have hoo : o' = o := by
          have h1 := hget i o' v hov
          have h2 : l[i]? = some o := by simpa using ho
          exact Option.some.inj (h1.symm.trans h2)
        subst hoo
        have hLi : listed.getD i false = false := getD_both hun
        obtain ⟨hexec, hwant⟩ := head_same hF.nosel ho (head_slot hF hdist hget hin inv.closed (a := a) hov ho hLi hdeps)
        have hstep : ∀ w'', Hb C w'' hs I → wpAny P .any l.toArray Q fuel (listed.setIfInBounds i true) ((puts hl (fun j => listed.getD j false) 0 a).put o'.dst v) w'' := by
          intro w'' hb''
          rw [puts_step hdist hov hLi a]
          have hisz : i < listed.size := by rw [inv.size, hsize]; omega
          rw [puts_congr hl _ (fun j => (listed.setIfInBounds i true).getD j false) 0 a fun j _ => by
            simp only [Nat.zero_add]
            by_cases hji : j = i
            · subst hji
              simp [hisz]
            · rw [getD_set_ne false (Ne.symm hji)]
              have : Nat.beq j i = false := by
                cases hbq : Nat.beq j i with
                | false => rfl
                | true => exact absurd (Nat.eq_of_beq_eq_true hbq) hji
              rw [this]
              simp]
          refine ih _ w'' (inv.set hi hin') hb'' ?_
          have := countP_lt (l := List.range n) (p := fun i => !listed.getD i true) (p' := fun j => !(listed.setIfInBounds i true).getD j true) (fun x _ hx => by
            by_cases hxi : i = x
            · subst hxi; simp [hisz] at hx
            · rwa [getD_set_ne true hxi] at hx) (List.mem_range.2 hin') (by simp [hun]) (by simp [hisz])
          omega
        have hh := (hhead i o' v hov).1 _ (hfr i (by omega))
        unfold wpOp
        rw [ho]
        simp only
        rcases hh with ⟨hw0, hv0⟩ | ⟨hw1, hrun⟩
        · rw [hwant, hw0]
          simp only [Bool.false_eq_true, if_false]
          rw [← hv0]
          exact hstep w' hb'
        · rw [hwant, hw1]
          simp only [if_true]
          refine .inl ?_
          unfold Oper.wp
          rw [hexec]
          have h1 := hrun w' hb'
          generalize (execOp (puts hl (fun j => decide (j < i)) 0 a).eval o').run P w' = r at h1
          cases r with
          | halt x w2 => exact h1.elim
          | ok x w2 =>
            cases x <;> first | exact h1.elim | skip
            · obtain ⟨rfl, h2⟩ := h1
              exact hstep _ h2
            · exact Calls.mono h1 fun x w3 hx => by
                obtain ⟨rfl, h2⟩ := hx
                exact hstep _ h2
  have h0 := main l.toArray.size (Array.replicate l.toArray.size false) { w with drawn := w.drawn + 1 }
    ⟨by simp, fun j oj _ hl' => (by rw [getD_replicate_false] at hl'; cases hl'), fun t _ ht => getD_in (by simpa using ht) (getD_replicate_false _ _)⟩
    (hb.same rfl rfl rfl rfl) (by
      have h1 := List.countP_le_length (p := fun i => !(Array.replicate l.toArray.size false).getD i true) (l := List.range n)
      simp only [List.length_range] at h1
      have := hF.le
      omega)
  have h2 : puts hl (fun j => (Array.replicate l.toArray.size false).getD j false) 0 a = a := by
    rw [puts_congr hl _ (fun _ => false) 0 a fun j _ => by simp only [Nat.zero_add]; exact getD_replicate_false _ _]
    have : ∀ (l : List (Oper × Value)) k b, puts l (fun _ => false) k b = b := fun l => by
      induction l with
      | nil => intro k b; rfl
      | cons p r ih => intro k b; unfold puts; simp [ih]
    exact this _ _ _
  rw [h2] at h0
  exact h0

theorem headForm0 {l : List Oper} {n : Nat} (h : HeadForm l n) : HeadForm0 l n := ⟨h.nosel, h.le, h.edge, h.dist, h.tail.imp id (·.2)⟩
theorem draw_ok {id : Nat} {l : List Oper} {n : Nat} {hs : List Chunk} {I : World → Prop} (hm : P.follows .mixedOrders = true) (hB : headOk l n = true) {hl : List (Oper × Value)} (hmap : hl.map (·.1) = l.take n)
    (hhead : ∀ i o v, hl[i]? = some (o, v) → Head P N C l.toArray (envs hl i e) hs I o v ∧ ∃ d, o.dst = some d ∧ d < N) (hKh : ∀ p ∈ hl, ∀ a, K a → K (a.put p.1.dst p.2))
    (htail : ∀ a w, Fr a N (envs hl hl.length e) → Hb C w hs I → K a → wpList P l.toArray Q (l.drop n) a w) : ∀ a w, Fr a N e → Hb C w hs I → K a → (Code.region id l.toArray true).wp P Q a w := by
  have hF := headOk_spec hB
  refine draw_gen hm (headForm0 hF) hmap hhead hKh htail fun a _ _ listed fuel w' inv _ hex _ i hi h1 => ?_
  exfalso
  have hil : i < l.length := by
    obtain ⟨_, o, ho, _⟩ := mem_ready.1 hi
    have := (Array.getElem?_eq_some_iff.1 ho).1
    simpa using this
  rcases hF.tail with h2 | h2
  · omega
  · obtain ⟨j, hj, hg⟩ := hex
    have hle := hF.le
    exact tail_waits h2.1 h2.2 (by simp; omega) inv _ j rfl hj (getD_in (by rw [inv.size]; simp; omega) hg) i h1 hi

/-! a new block ahead of heads for which it does not wait -/
theorem reachB_ok {ops : Array Oper} {listed : Array Bool} (closed : ∀ j oj, ops[j]? = some oj → listed.getD j false = true → ∀ e ∈ oj.after, Region.binds .any e = true → listed.getD e.on false = true) :
    ∀ f i t, reachB ops f i t = true → listed.getD i false = true → listed.getD t false = true
  | 0, i, t, h, hi => by rw [← Nat.eq_of_beq_eq_true h]; exact hi
  | f + 1, i, t, h, hi => by
    unfold reachB at h
    rw [Bool.or_eq_true] at h
    rcases h with h | h
    · rw [← Nat.eq_of_beq_eq_true h]; exact hi
    · split at h
      · rename_i o ho
        obtain ⟨x, hx, hb⟩ := Array.any_eq_true'.1 h
        rw [Bool.and_eq_true] at hb
        exact reachB_ok closed f x.on t hb.2 (closed i o ho hi x hx hb.1)
      · cases h
structure HeadFormB (l : List Oper) (n : Nat) (ob : Oper) (d : Nat) : Prop where
  form : HeadForm0 l n
  lt : n < l.length
  tail : n + 1 = l.length ∨ (Region.sinkB .any l.toArray (n + 1) = true ∧ Region.chainB .any l.toArray (n + 1) = true)
  chain : Region.chainB .any l.toArray n = true
  op : l.toArray[n]? = some ob
  gd : ob.guard = none
  bs : ∃ t m ps, ob.op = .buildSlice t m ps
  dst : ob.dst = some d
  ne : ∀ j oj, j < n → l.toArray[j]? = some oj → oj.dst ≠ some d ∧ d ∉ oj.looksAt l.toArray
  quiet : ∀ j oj, j < n → l.toArray[j]? = some oj → quietB oj = true ∨ reachB l.toArray n n j = true
  see : ∀ j oj s, j < n → l.toArray[j]? = some oj → oj.dst = some s → s ∈ ob.looksAt l.toArray → Region.waitsFor .any l.toArray n j = true
theorem headOkB_spec {l : List Oper} {n : Nat} (h : headOkB l n = true) : ∃ ob d, HeadFormB l n ob d := by
  unfold headOkB at h
  simp only [Bool.and_eq_true, decide_eq_true_eq, Bool.or_eq_true] at h
  obtain ⟨⟨⟨⟨⟨⟨h1, h2⟩, h3⟩, h4⟩, h5⟩, h6⟩, h7⟩ := h
  split at h7
  case h_2 => cases h7
  case h_1 ob hob =>
  simp only [Bool.and_eq_true] at h7
  obtain ⟨⟨h7, h8⟩, h9⟩ := h7
  split at h9
  case h_2 => cases h9
  case h_1 d hd =>
  have h2 : n + 1 ≤ l.length := by simpa using h2
  have key : ∀ (j : Nat) (oj : Oper), j < n → l.toArray[j]? = some oj → ((oj.dst ≠ some d ∧ (oj.looksAt l.toArray).contains d = false) ∧ (quietB oj = true ∨ reachB l.toArray n n j = true)) ∧ (match oj.dst with | some s => !(ob.looksAt l.toArray).contains s || Region.waitsFor .any l.toArray n j | none => true) = true := fun j oj hj hoj => by
    have h10 := List.all_eq_true.1 h9 j (List.mem_range.2 hj)
    rw [hoj] at h10
    simp only [Bool.and_eq_true, Bool.or_eq_true, Bool.not_eq_true', decide_eq_true_eq] at h10
    exact h10
  refine ⟨ob, d, ⟨h1, by omega, fun i o ho x hx hbx => ?_, fun i j oi oj s hi hj hoi hoj hij hds => ?_, .inr h5⟩, by omega, h6.imp (fun h => by simpa using h) id, h5, hob, by simpa using h7, ?_, hd, fun j oj hj hoj => ⟨(key j oj hj hoj).1.1.1, fun hm => ?_⟩, fun j oj hj hoj => (key j oj hj hoj).1.2, fun j oj s hj hoj hs hm => ?_⟩
  · have hlt := (Array.getElem?_eq_some_iff.1 ho).1
    have h6 := List.all_eq_true.1 h3 i (List.mem_range.2 hlt)
    rw [ho] at h6
    have h7 := Array.all_eq_true_iff_forall_mem.1 h6 x hx
    simpa [hbx] using h7
  · have h6 := List.all_eq_true.1 h4 i (List.mem_range.2 hi)
    have hoi' : l.toArray[i]? = some oi := by simpa using hoi
    have hoj' : l.toArray[j]? = some oj := by simpa using hoj
    rw [hoi'] at h6
    have h7 := List.all_eq_true.1 h6 j (List.mem_range.2 hj)
    rw [hoj'] at h7
    simp only [Bool.or_eq_true, decide_eq_true_eq, hds] at h7
    rcases h7 with h7 | h7
    · exact absurd h7 hij
    · simp only [Bool.and_eq_true, Bool.or_eq_true, Bool.not_eq_true', decide_eq_true_eq] at h7
      refine ⟨h7.1, fun hm => ?_⟩
      rcases h7.2 with (h8 | h8) | h8
      · rw [List.contains_iff_mem.2 hm] at h8
        cases h8
      · exact .inl h8
      · exact .inr h8
  · split at h8
    · rename_i t m ps ho; exact ⟨t, m, ps, ho⟩
    · cases h8
  · have := (key j oj hj hoj).1.1.2
    rw [List.contains_iff_mem.2 hm] at this
    cases this
  · have := (key j oj hj hoj).2
    rw [hs] at this
    simp only [Bool.or_eq_true, Bool.not_eq_true'] at this
    rcases this with this | this
    · rw [List.contains_iff_mem.2 hm] at this
      cases this
    · exact this

/-- A head that leaves the world as it is. -/
def HeadQ (P : Program) (N : Nat) (C : Cx) (ops : Array Oper) (e : Env) (hs : List Chunk) (I : World → Prop) (o : Oper) (v : Value) : Prop :=
  ∀ a, Fr a N e → (Region.wanted o (yielded ops a.tmps) = false ∧ v = undef) ∨ (Region.wanted o (yielded ops a.tmps) = true ∧ ∀ w, Hb C w hs I → (execOp a.eval o).run P w = .ok (.value v) w)
theorem put_comm {a : Act} {d d' : Nat} {v v' : Value} (h : d ≠ d') : (a.put (some d) v).put (some d') v' = (a.put (some d') v').put (some d) v := by
  cases a
  simp only [Act.put]
  rw [Array.setIfInBounds_comm _ _ h]

theorem draw_okB {id : Nat} {l : List Oper} {n : Nat} {hs : List Chunk} {I : World → Prop} (hm : P.follows .mixedOrders = true) {ob : Oper} {d : Nat} (hF : HeadFormB l n ob d) {hl : List (Oper × Value)} (hmap : hl.map (·.1) = l.take n)
    (hhead : ∀ i o v, hl[i]? = some (o, v) → Head P N C l.toArray (envs hl i e) hs I o v ∧ ∃ d, o.dst = some d ∧ d < N) (hq : ∀ i o v, hl[i]? = some (o, v) → quietB o = true → HeadQ P N C l.toArray (envs hl i e) hs I o v) (hKh : ∀ p ∈ hl, ∀ a, K a → K (a.put p.1.dst p.2))
    (htail : ∀ a w, Fr a N (envs hl hl.length e) → Hb C w hs I → K a → wpList P l.toArray Q (l.drop n) a w)
    (hnew : ∀ a w, Fr a N (envs hl hl.length e) → Hb C w hs I → K a → ∃ v w', (execOp a.eval ob).run P w = .ok (.value v) w' ∧ Ext (fun _ => none) [] w w' ∧ wpList P l.toArray Q (l.drop (n + 1)) (a.put (some d) v) w') :
    ∀ a w, Fr a N e → Hb C w hs I → K a → (Code.region id l.toArray true).wp P Q a w := by
  have hF0 := hF.form
  refine draw_gen hm hF0 hmap hhead hKh htail fun a hf ha listed fuel w' inv hb hex hfu i hi hin => ?_
  have hlt := hF.lt
  have hsize : l.toArray.size = l.length := by simp
  obtain ⟨hun, o, ho, hdeps⟩ := mem_ready.1 hi
  have hil := (Array.getElem?_eq_some_iff.1 ho).1
  have hni : i = n := by
    rcases Nat.lt_or_ge n i with h2 | h2
    · exfalso
      have h4 := List.all_eq_true.1 hF.chain i (List.mem_range.2 hil)
      simp only [Bool.or_eq_true, decide_eq_true_eq] at h4
      rcases h4 with h4 | h4
      · omega
      · obtain ⟨o', ho', x, hx, hbx, hon⟩ := Region.waitsFor_spec h4
        have : o' = o := Option.some.inj (ho'.symm.trans ho)
        subst this
        have h5 := hdeps x hx hbx
        have h6 := getD_both (inv.tail (i - 1) (by omega) (by omega))
        rw [hon, h6] at h5
        cases h5
    · omega
  subst hni
  have : o = ob := Option.some.inj (ho.symm.trans hF.op)
  subst this
  -- the heads
  have hlen : hl.length = i := by
    have := congrArg List.length hmap
    simp at this
    omega
  have hget : ∀ (j : Nat) (o : Oper) (v : Value), hl[j]? = some (o, v) → l[j]? = some o := fun j o v hj => by
    have h1 : (hl.map (·.1))[j]? = some o := by simp [hj]
    rw [hmap, List.getElem?_take] at h1
    split at h1
    · exact h1
    · cases h1
  have hinl : ∀ (j : Nat) (o : Oper) (v : Value), hl[j]? = some (o, v) → j < i := fun j o v hj => by
    have := (List.getElem?_eq_some_iff.1 hj).1
    omega
  have hdist : Distinct hl := fun j k o v o' v' s hj hk hjk hds => (hF0.dist k j o' o s (hinl _ _ _ hk) (hinl _ _ _ hj) (hget _ _ _ hk) (hget _ _ _ hj) (Ne.symm hjk) hds).1
  have hfr := envs_fr hdist hf fun j o v hj => (hhead j o v hj).2
  have hfull := hfr hl.length (Nat.le_refl _)
  have hall : ∀ L : Nat → Bool, (∀ j, j < i → L j = true) → puts hl L 0 a = puts hl (fun j => decide (j < hl.length)) 0 a := fun L hL => puts_congr hl _ _ 0 a fun j hj => by
    simp only [Nat.zero_add]
    rw [hL j (by omega)]
    simp [hj]
  obtain ⟨v, wB, hrun, hext, hrest⟩ := hnew _ w' hfull hb (putsK hKh _ _ _ ha)
  -- the block is new in any frame that has what it looks at
  have hsee : ∀ s ∈ o.looksAt l.toArray, (puts hl (fun j => listed.getD j false) 0 a).tmps[s]? = (puts hl (fun j => decide (j < hl.length)) 0 a).tmps[s]? := fun s hs => by
    by_cases hssz : s < a.tmps.size
    · by_cases hex3 : ∃ (j : Nat) (oj : Oper) (vj : Value), hl[j]? = some (oj, vj) ∧ oj.dst = some s
      · obtain ⟨j, oj, vj, hj, hds⟩ := hex3
        have hjn := hinl _ _ _ hj
        have h1 := hF.see j oj s hjn (by simpa using hget _ _ _ hj) hds hs
        obtain ⟨o2, ho2, x, hx, hbx, hon⟩ := Region.waitsFor_spec h1
        have : o2 = o := Option.some.inj (ho2.symm.trans ho)
        subst this
        have h2 := hdeps x hx hbx
        rw [hon] at h2
        have hun2 : ∀ (k : Nat) (o2 : Oper) (v2 : Value), hl[k]? = some (o2, v2) → k ≠ j → o2.dst ≠ some s := fun k o2 v2 hk hkj hd2 => hdist k j o2 v2 oj vj s hk hj hkj hd2 hds
        rw [puts_some hl _ s 0 a j oj vj hj (by simpa using h2) hds hssz hun2, puts_some hl _ s 0 a j oj vj hj (by simp; omega) hds hssz hun2]
      · have h3 : ∀ (L : Nat → Bool), (puts hl L 0 a).tmps[s]? = a.tmps[s]? := fun L => puts_none hl L s 0 a fun j oj vj hj _ hds => hex3 ⟨j, oj, vj, hj, hds⟩
        rw [h3, h3]
    · have hz : ∀ L : Nat → Bool, (puts hl L 0 a).tmps[s]? = none := fun L => by
        have h5 := (puts_size hl L 0 a).1
        rw [Array.getElem?_eq_none_iff, h5]
        exact Nat.le_of_not_lt hssz
      rw [hz, hz]
  have hbB : Hb C wB hs I := hb.grow hext
  have hB1 := (head_same hF0.nosel ho hsee).1
  -- what is left behind it
  have main : ∀ (fuel : Nat) (listed : Array Bool), HeadInv .any l.toArray (i + 1) listed → listed.getD i false = true → (l.length - (i + 1)) + (List.range i).countP (fun j => !listed.getD j true) ≤ fuel →
      wpAny P .any l.toArray Q fuel listed ((puts hl (fun j => listed.getD j false) 0 a).put (some d) v) wB := by
    have done : ∀ (fuel : Nat) (listed : Array Bool), HeadInv .any l.toArray (i + 1) listed → listed.getD i false = true → l.length - (i + 1) ≤ fuel → (∀ j, j < i → listed.getD j false = true) →
        wpAny P .any l.toArray Q fuel listed ((puts hl (fun j => listed.getD j false) 0 a).put (some d) v) wB := fun fuel listed inv hli hfu hal => by
      refine chain_any hF0.edge (.inr hF.chain) fuel (i + 1) listed _ wB (by omega) (by rw [hsize]; omega) inv.size (fun j hj => ?_) (by rw [hsize]; omega) ?_
      · by_cases hjn : j < i + 1
        · rcases Nat.lt_succ_iff_lt_or_eq.1 hjn with h1 | rfl
          · rw [hal j h1]; simp [hjn]
          · rw [hli]; simp
        · have h1 := inv.tail j (by omega) hj
          rw [getD_both h1]
          simp [hjn]
      · rw [hall _ hal]
        exact hrest
    intro fuel
    induction fuel with
    | zero =>
      intro listed inv hli hfu
      refine done 0 listed inv hli (by omega) fun j hj => ?_
      have h1 : (List.range i).countP (fun j => !listed.getD j true) = 0 := by omega
      have h2 := List.countP_eq_zero.1 h1 j (List.mem_range.2 hj)
      rw [← getD_tf (by rw [inv.size, hsize]; omega)]
      simpa using h2
    | succ fuel ih =>
      intro listed inv hli hfu
      by_cases hal : ∀ j, j < i → listed.getD j false = true
      · exact done _ listed inv hli (by omega) hal
      · have hex : ∃ j, j < i ∧ listed.getD j false = false := by
          apply Classical.byContradiction
          intro hno
          refine hal fun j hj => ?_
          cases hg : listed.getD j false with
          | true => rfl
          | false => exact absurd ⟨j, hj, hg⟩ hno
        have hready : ∀ k ∈ Region.ready .any l.toArray listed, k < i := fun k hk => by
          obtain ⟨hkun, ok, hok, _⟩ := mem_ready.1 hk
          have hkl := (Array.getElem?_eq_some_iff.1 hok).1
          rcases Nat.lt_or_ge k i with h1 | h1
          · exact h1
          · exfalso
            rcases Nat.lt_or_ge i k with h2 | h2
            · rcases hF.tail with h3 | h3
              · omega
              · obtain ⟨j, hj, hg⟩ := hex
                exact tail_waits h3.1 h3.2 (by rw [hsize]; omega) inv _ j rfl (by omega) (getD_in (by rw [inv.size, hsize]; omega) hg) k (by omega) hk
            · have : k = i := by omega
              subst this
              rw [getD_both hkun] at hli
              cases hli
        have hne : Region.ready .any l.toArray listed ≠ [] := by
          obtain ⟨j, hj, hg⟩ := hex
          obtain ⟨k, hk⟩ := head_ready hF0 inv.size j j hj hg (Nat.le_refl _)
          intro h0
          rw [h0] at hk
          cases hk
        refine ⟨fun h0 => absurd h0 hne, fun k hk => ?_⟩
        have hki := hready k hk
        obtain ⟨hkun, ok, hok, hkdeps⟩ := mem_ready.1 hk
        obtain ⟨⟨o', vk⟩, hov⟩ : ∃ p, hl[k]? = some p := ⟨_, List.getElem?_eq_getElem (by omega)⟩
        have hoo : o' = ok := by
          have h1 := hget k o' vk hov
          have h2 : l[k]? = some ok := by simpa using hok
          exact Option.some.inj (h1.symm.trans h2)
        subst hoo
        have hLk : listed.getD k false = false := getD_both hkun
        have hqk : quietB o' = true := by
          rcases hF.quiet k o' hki hok with h1 | h1
          · exact h1
          · have := reachB_ok inv.closed i i k h1 hli
            rw [hLk] at this
            cases this
        obtain ⟨hne1, hne2⟩ := hF.ne k o' hki hok
        obtain ⟨dk, hdk, hdkN⟩ := (hhead k o' vk hov).2
        have hdd : dk ≠ d := fun e => hne1 (by rw [hdk, e])
        have hslot : ∀ s ∈ o'.looksAt l.toArray, ((puts hl (fun j => listed.getD j false) 0 a).put (some d) v).tmps[s]? = (puts hl (fun j => decide (j < k)) 0 a).tmps[s]? := fun s hs => by
          have hsd : d ≠ s := fun e => hne2 (e ▸ hs)
          rw [← head_slot hF0 hdist hget hinl inv.closed (a := a) hov hok hLk hkdeps s hs]
          simp only [Act.put]
          rw [Array.getElem?_setIfInBounds_ne hsd]
        obtain ⟨hexec, hwant⟩ := head_same hF0.nosel hok hslot
        have hstep : wpAny P .any l.toArray Q fuel (listed.setIfInBounds k true) (((puts hl (fun j => listed.getD j false) 0 a).put (some d) v).put o'.dst vk) wB := by
          rw [hdk, put_comm (Ne.symm hdd), ← hdk, puts_step hdist hov hLk a]
          have hksz : k < listed.size := by rw [inv.size, hsize]; omega
          rw [puts_congr hl _ (fun j => (listed.setIfInBounds k true).getD j false) 0 a fun j _ => by
            simp only [Nat.zero_add]
            by_cases hjk : j = k
            · subst hjk
              simp [hksz]
            · rw [getD_set_ne false (Ne.symm hjk)]
              have : Nat.beq j k = false := by
                cases hbq : Nat.beq j k with
                | false => rfl
                | true => exact absurd (Nat.eq_of_beq_eq_true hbq) hjk
              rw [this]
              simp]
          refine ih _ (inv.set hk (by omega)) (by rw [getD_set_ne false (by omega)]; exact hli) ?_
          have := countP_lt (l := List.range i) (p := fun j => !listed.getD j true) (p' := fun j => !(listed.setIfInBounds k true).getD j true) (fun x _ hx => by
            by_cases hxk : k = x
            · subst hxk; simp [hksz] at hx
            · rwa [getD_set_ne true hxk] at hx) (List.mem_range.2 hki) (by simp [hkun]) (by simp [hksz])
          omega
        have hh := hq k o' vk hov hqk _ (hfr k (by omega))
        unfold wpOp
        rw [hok]
        simp only
        rcases hh with ⟨hw0, hv0⟩ | ⟨hw1, hrun1⟩
        · rw [hwant, hw0]
          simp only [Bool.false_eq_true, if_false]
          rw [← hv0]
          exact hstep
        · rw [hwant, hw1]
          simp only [if_true]
          refine .inl ?_
          unfold Oper.wp
          rw [hexec, hrun1 wB hbB]
          exact hstep
  unfold wpOp
  rw [ho]
  simp only
  have hwt : Region.wanted o (yielded l.toArray (puts hl (fun j => listed.getD j false) 0 a).tmps) = true := by simp [Region.wanted, hF.gd]
  rw [hwt]
  simp only [if_true]
  refine .inl ?_
  unfold Oper.wp
  rw [hB1, hrun]
  show wpAny P .any l.toArray Q fuel (listed.setIfInBounds i true) ((puts hl (fun j => listed.getD j false) 0 a).put o.dst v) wB
  rw [hF.dst]
  have hisz : i < listed.size := by rw [inv.size, hsize]; omega
  have e1 : (puts hl (fun j => listed.getD j false) 0 a) = puts hl (fun j => (listed.setIfInBounds i true).getD j false) 0 a := puts_congr hl _ _ 0 a fun j hj => by
    simp only [Nat.zero_add]
    rw [getD_set_ne false (by omega)]
  show wpAny P .any l.toArray Q fuel (listed.setIfInBounds i true) ((puts hl (fun j => listed.getD j false) 0 a).put (some d) v) wB
  rw [e1]
  refine main fuel _ ⟨by simpa using inv.size, fun j oj hoj hlj x hx hbx => ?_, fun t ht htl => ?_⟩ (by simp [hisz]) ?_
  · by_cases hji : i = j
    · subst hji
      have : oj = o := Option.some.inj (hoj.symm.trans ho)
      subst this
      have h1 := hdeps x hx hbx
      by_cases hxi : i = x.on
      · rw [← hxi]; simp [hisz]
      · rw [getD_set_ne false hxi]; exact h1
    · rw [getD_set_ne false hji] at hlj
      have h1 := inv.closed j oj hoj hlj x hx hbx
      by_cases hxi : i = x.on
      · rw [← hxi]; simp [hisz]
      · rw [getD_set_ne false hxi]; exact h1
  · rw [getD_set_ne true (by omega)]
    exact inv.tail t (by omega) htl
  · have : (List.range i).countP (fun j => !(listed.setIfInBounds i true).getD j true) = (List.range i).countP (fun j => !listed.getD j true) := List.countP_congr fun x hx => by
      have := List.mem_range.1 hx
      rw [getD_set_ne true (by omega)]
    rw [this]
    omega

theorem EnvR.put0 {l : List (Nat × D)} {hs : List Chunk} (h : EnvR W l e hs) {k : Nat} {d : D} {v : Value} (hk : ∀ d', Lf.look l k = some d' → ∀ v h, DR W d' v h → h = []) (hv : DR W d v []) : EnvR W (putl l k d) (putl e k v) hs := by
  induction h with
  | nil => exact EnvR.cons (h := []) hv .nil
  | @cons k' d' v' h hs l e h1 h2 ih =>
    rw [putl_cons, putl_cons]
    split
    · rename_i he
      have := hk d' (by rw [look_cons, if_pos he]) v' h h1
      subst this
      exact .cons hv h2
    · rename_i he
      exact .cons h1 (ih fun d2 h2 => hk d2 (by rw [look_cons, if_neg he]; exact h2))

theorem frzL_nil {φ : Phi} : ∀ {l l' : List Dn} {vs : List Value} {h : List Chunk}, frzL l = some l' → TupR φ l' vs h → h = []
  | [], l', vs, h, e, ht => by
    simp only [frzL, Option.some.injEq] at e
    subst e
    cases ht
    rfl
  | ⟨t, x⟩ :: l, l', vs, h, e, ht => by
    unfold frzL at e
    split at e
    case h_2 => cases e
    case h_1 y m hy hm =>
    simp only [Option.some.injEq] at e
    subst e
    cases ht with
    | cons h1 h2 h3 =>
      have e1 := Rp.er_nil (Ty.er_er t).symm h2
      have e2 := frzL_nil hm h3
      rw [e1, e2]; rfl
theorem peek_nils {d : D} {v : Value} {h : List Chunk} (hd : DR W d.peek v h) : h = [] := by
  cases d with
  | v t x =>
    unfold D.peek at hd
    cases hc : coe t t.er x with
    | none => simp only [hc] at hd; exact hd
    | some y =>
      simp only [hc] at hd
      obtain ⟨cs, _, _, h3⟩ := hd
      exact Rp.er_nil (Ty.er_er t).symm h3
  | tup l =>
    unfold D.peek at hd
    cases hc : frzL l with
    | none => simp only [hc] at hd; exact hd
    | some m =>
      simp only [hc] at hd
      obtain ⟨vs, _, h3⟩ := hd
      exact frzL_nil hc h3
  | und => exact hd
  | nils => exact hd.2
  | nilp => exact hd.2
  | niI => exact hd.2
  | udf => exact hd.2
  | ref j p o => exact hd.2
  | fro t x => obtain ⟨_, _, _, _, _, h⟩ := hd; exact h
  | aref j p o => exact hd.2
  | ael j p o n z q qo => obtain ⟨_, _, _, _, _, h⟩ := hd; exact h
  | fn f => exact hd.2

def NilAt (W : Wit) (l : List (Nat × D)) (k : Nat) : Prop := ∀ d', look l k = some d' → ∀ v h, DR W d' v h → h = []
theorem look_putl_ne {α : Type} {l : List (Nat × α)} {k j : Nat} {v : α} (h : j ≠ k) : look (putl l k v) j = look l j := by
  induction l with
  | nil => rw [putl, look_cons, if_neg fun e => h e.symm]
  | cons p r ih =>
    rw [show p = (p.1, p.2) from rfl, putl_cons]
    split
    · rename_i he
      rw [look_cons, look_cons, if_neg fun e => h e.symm, if_neg fun e => h (e.symm.trans he)]
    · rw [look_cons, look_cons, ih]
theorem NilAt.put {l : List (Nat × D)} {j k : Nat} {d : D} (h : NilAt W l j) : NilAt W (putl l k d.peek) j := fun d' hd' v hh hdr => by
  by_cases he : j = k
  · subst he
    rw [look_putl] at hd'
    simp only [Option.some.injEq] at hd'
    subst hd'
    exact peek_nils hdr
  · rw [look_putl_ne he] at hd'
    exact h d' hd' v hh hdr
theorem strips_nil : ∀ (ops : List Oper) (l : List (Nat × D)) (j : Nat), NilAt W l j → NilAt W (strips ops l) j
  | [], _, _, h => h
  | o :: r, l, j, h => by
    unfold strips
    split
    · split
      · exact strips_nil r _ j h.put
      · exact strips_nil r _ j h
    · exact strips_nil r _ j h
theorem strips_ok : ∀ (ops : List Oper) (l : List (Nat × D)) (hs : List Chunk), EnvR W l e hs → ∃ hs', EnvR W (strips ops l) e hs' ∧ Sub hs hs' ∧ ∀ o ∈ ops, ∀ d, o.dst = some d → NilAt W (strips ops l) d
  | [], l, hs, h => ⟨hs, h, Sub.refl _, by simp⟩
  | o :: r, l, hs, h => by
    unfold strips
    split
    · rename_i d hd
      split
      · rename_i x hx
        obtain ⟨v, h1, eh', q1, q2, q3, q4⟩ := h.strip hx
        obtain ⟨hs', g1, g2, g3⟩ := strips_ok r _ _ q3
        refine ⟨hs', g1, (q4.trans Sub.right).trans g2, fun o' ho' d' hd' => ?_⟩
        rcases List.mem_cons.1 ho' with rfl | ho'
        · rw [hd] at hd'
          injection hd' with hd'
          subst hd'
          refine strips_nil r _ _ fun d' hd' v hh hdr => ?_
          rw [look_putl] at hd'
          simp only [Option.some.injEq] at hd'
          subst hd'
          exact peek_nils hdr
        · exact g3 o' ho' d' hd'
      · rename_i hx
        obtain ⟨hs', g1, g2, g3⟩ := strips_ok r _ _ h
        refine ⟨hs', g1, g2, fun o' ho' d' hd' => ?_⟩
        rcases List.mem_cons.1 ho' with rfl | ho'
        · rw [hd] at hd'
          injection hd' with hd'
          subst hd'
          exact strips_nil r _ _ fun d' hd' => by rw [hx] at hd'; cases hd'
        · exact g3 o' ho' d' hd'
    · rename_i hd
      obtain ⟨hs', g1, g2, g3⟩ := strips_ok r _ _ h
      refine ⟨hs', g1, g2, fun o' ho' d' hd' => ?_⟩
      rcases List.mem_cons.1 ho' with rfl | ho'
      · rw [hd] at hd'; cases hd'
      · exact g3 o' ho' d' hd'

theorem valOk_dst {o : Oper} (h : (valOk c o || moveH c o) = true) : ∃ d, o.dst = some d := by
  cases hd : o.dst with
  | some d => exact ⟨d, rfl⟩
  | none =>
    unfold valOk moveH at h
    rw [hd] at h
    cases h

/-! rights that go from slot to slot -/
def Eqv (a b : List Chunk) : Prop := Sub a b ∧ Sub b a
theorem Eqv.perm {a b : List Chunk} (p : a.Perm b) : Eqv a b := ⟨Sub.perm p, Sub.perm p.symm⟩
theorem Eqv.trans {a b d : List Chunk} (h : Eqv a b) (h' : Eqv b d) : Eqv a d := ⟨h.1.trans h'.1, h'.2.trans h.2⟩
theorem EnvR.stripP {l : List (Nat × D)} {hs : List Chunk} (h : EnvR W l e hs) {k : Nat} {d : D} (hk : Lf.look l k = some d) :
    ∃ v h1 eh', Look e k v ∧ DR W d v h1 ∧ EnvR W (putl l k d.peek) e eh' ∧ hs.Perm (h1 ++ eh') := by
  induction h with
  | nil => cases hk
  | @cons k' d' v h hs l e h1 h2 ih =>
    rw [look_cons] at hk
    split at hk
    · rename_i hkk
      subst hkk
      simp only [Option.some.injEq] at hk
      subst hk
      refine ⟨v, h, [] ++ hs, .here, h1, ?_, by simp⟩
      rw [putl_cons, if_pos rfl]
      exact .cons (peek_any h1) h2
    · rename_i hkk
      obtain ⟨v', h3, eh', q1, q2, q4, q5⟩ := ih hk
      refine ⟨v', h3, h ++ eh', .there q1, q2, ?_, (q5.append_left h).trans (List.perm_append_comm_assoc _ _ _)⟩
      rw [putl_cons, if_neg hkk]
      exact .cons h1 q4
theorem EnvR.putP {l : List (Nat × D)} {hs : List Chunk} (h : EnvR W l e hs) {k : Nat} {d : D} {v : Value} {hd : List Chunk} (hk : NilAt W l k) (hv : DR W d v hd) : ∃ hs', EnvR W (putl l k d) (putl e k v) hs' ∧ (hd ++ hs).Perm hs' := by
  induction h with
  | nil => exact ⟨hd ++ [], EnvR.cons hv .nil, List.Perm.refl _⟩
  | @cons k' d' v' h hs l e h1 h2 ih =>
    rw [putl_cons, putl_cons]
    split
    · rename_i he
      have := hk d' (by rw [look_cons, if_pos he]) v' h h1
      subst this
      exact ⟨hd ++ hs, .cons hv h2, by simp⟩
    · rename_i he
      obtain ⟨hs', q1, q2⟩ := ih fun d2 h2 => hk d2 (by rw [look_cons, if_neg he]; exact h2)
      exact ⟨h ++ hs', .cons h1 q1, (List.perm_append_comm_assoc _ _ _).trans (q2.append_left h)⟩
theorem strip_okP (hs : SRel S W e eh oh) {x : Operand} {d : D} (hx : S.raw x = d) (hne : d ≠ .und) :
    ∃ v h eh', EV e x v ∧ DR W d v h ∧ SRel (S.strip x) W e eh' oh ∧ eh.Perm (h ++ eh') ∧ ∀ j, NilAt W S.env j → NilAt W (S.strip x).env j := by
  cases x with
  | tmp s =>
    cases hl : look S.env s with
    | none => simp only [St.raw, hl] at hx; exact absurd hx.symm hne
    | some d' =>
      have hx : d' = d := by simpa only [St.raw, hl] using hx
      subst hx
      have e1 : S.strip (.tmp s) = S.put s d'.peek := by simp only [St.strip, hl]
      rw [e1]
      obtain ⟨v, h1, eh', q1, q2, q4, q5⟩ := hs.env.stripP hl
      exact ⟨v, h1, eh', .t q1, q2, ⟨q4, hs.obs, hs.nd⟩, q5, fun j hj => hj.put⟩
  | const v =>
    have hx' : constD v = d := hx
    have h1 := const_ok (W := W) v (by rw [hx']; exact hne)
    rw [hx'] at h1
    exact ⟨v, [], eh, .c, h1, hs, by simp, fun _ h => h⟩
  | global g => exact absurd hx.symm hne
  | func f =>
    have hx' : D.fn f = d := hx
    subst hx'
    exact ⟨_, [], eh, .f, ⟨rfl, rfl⟩, hs, by simp, fun _ h => h⟩
theorem NilAt.kill {l : List (Nat × D)} {k j o n : Nat} (h : NilAt W l k) : NilAt W (killE j o n l) k := by
  intro d' hd' v hh hdr
  have key : ∀ l : List (Nat × D), look (killE j o n l) k = some d' → d' = .und ∨ look l k = some d' := fun l => by
    induction l with
    | nil => intro h; cases h
    | cons p r ih =>
      obtain ⟨i, d⟩ := p
      intro h
      have go : ∀ d2, killE j o n ((i, d) :: r) = (i, d2) :: killE j o n r → (d2 = d ∨ d2 = .und) → d' = .und ∨ look ((i, d) :: r) k = some d' := fun d2 e1 e2 => by
        rw [e1, look_cons] at h
        rw [look_cons]
        split at h
        · rename_i hik
          simp only [Option.some.injEq] at h
          rw [if_pos hik]
          rcases e2 with e2 | e2
          · right; rw [← e2, h]
          · left; rw [← h, e2]
        · rename_i hik
          rw [if_neg hik]
          exact ih h
      cases d with
      | aref j' p o' =>
        refine go _ rfl ?_
        cases (Nat.beq j j' && Nat.ble o o' && Nat.blt o' (o + n)) <;> simp
      | ael j' p o' m z q qo =>
        refine go _ rfl ?_
        cases (Nat.beq j j' && Nat.ble o o' && Nat.blt o' (o + n)) <;> simp
      | _ => exact go _ rfl (.inl rfl)
  rcases key l hd' with rfl | h1
  · exact hdr
  · exact h d' h1 v hh hdr
/-- what a head that turns rights alone leaves -/
theorem moveH_ok (hc : CtxOk P G c) (hn : c.n = N) {o : Oper} {d : Nat} (hd : o.dst = some d) (hm : moveH c o = true) {k : St → Option Rt} (h : effE c o S k = some r) (hs : SRel S W e eh oh) (hnil : NilAt W S.env d) :
    ∃ S' v eh' oh', k S' = some r ∧ d < N ∧ SRel S' W (putl e d v) eh' oh' ∧ Eqv (eh ++ oh) (eh' ++ oh') ∧ (∀ j, j ≠ d → NilAt W S.env j → NilAt W S'.env j) ∧
      ∀ a w, Fr a N e → Hb C w (eh ++ oh) (Inv G W.φ) → (execOp a.eval o).run P w = .ok (.value v) w := by
  -- the slot takes what has left its place
  have fin : ∀ (S1 : St) (D' : D) (v : Value) (hh eh1 oh1 : List Chunk), out c o S1 D' k = some r → SRel S1 W e eh1 oh1 → DR W D' v hh → Eqv (eh ++ oh) (hh ++ (eh1 ++ oh1)) → NilAt W S1.env d → (∀ j, NilAt W S.env j → NilAt W S1.env j) → (∀ a w, Fr a N e → Hb C w (eh ++ oh) (Inv G W.φ) → (execOp a.eval o).run P w = .ok (.value v) w) →
      ∃ S' v eh' oh', k S' = some r ∧ d < N ∧ SRel S' W (putl e d v) eh' oh' ∧ Eqv (eh ++ oh) (eh' ++ oh') ∧ (∀ j, j ≠ d → NilAt W S.env j → NilAt W S'.env j) ∧ ∀ a w, Fr a N e → Hb C w (eh ++ oh) (Inv G W.φ) → (execOp a.eval o).run P w = .ok (.value v) w := fun S1 D' v hh eh1 oh1 h1 h2 h3 h4 h5 h6 h7 => by
    unfold out at h1
    rw [hd] at h1
    simp only at h1
    cases hb : Nat.blt d c.n with
    | false => rw [hb] at h1; cases h1
    | true =>
      rw [hb] at h1
      obtain ⟨hs', q1, q2⟩ := h2.env.putP h5 h3
      refine ⟨S1.put d D', v, hs', oh1, h1, hn ▸ blt_ok hb, ⟨q1, h2.obs, h2.nd⟩, h4.trans (.perm ?_), fun j hj hnj => ?_, h7⟩
      · rw [← List.append_assoc]; exact q2.append_right oh1
      · intro D2 hD2
        rw [show (S1.put d D').env = putl S1.env d D' from rfl, look_putl_ne hj] at hD2
        exact h6 j hnj D2 hD2
  have mv : ∀ x, (∀ (a : Act) w v, a.eval x = v → (execOp a.eval o).run P w = .ok (.value v) w) → moveT c o S x k = some r → (∀ el t, look c.own d ≠ some (.mr el t)) → ∃ S' v eh' oh', k S' = some r ∧ d < N ∧ SRel S' W (putl e d v) eh' oh' ∧ Eqv (eh ++ oh) (eh' ++ oh') ∧ (∀ j, j ≠ d → NilAt W S.env j → NilAt W S'.env j) ∧ ∀ a w, Fr a N e → Hb C w (eh ++ oh) (Inv G W.φ) → (execOp a.eval o).run P w = .ok (.value v) w := fun x ex h2 hno => by
    unfold moveT at h2
    rw [hd] at h2
    simp only at h2
    split at h2
    · rename_i ho; exact absurd ho (hno _ _)
    · rename_i el t hx ho
      obtain ⟨v, hh, rr, q1, q2, q3⟩ := raw_ok hs.env (x := x) (by rw [hx]; intro e; cases e)
      rw [hx] at q2
      obtain ⟨rfl, rfl⟩ := q2
      refine fin S _ _ [.row true (.slice none 0 0) el t.size 0 []] eh oh h2 hs ⟨[.slice none 0 0], rfl, rfl, none, 0, [], rfl, Nat.le_refl _, .nil, fun h => absurd h (by simp), rfl⟩ ⟨?_, ?_⟩ hnil (fun _ h => h) fun a w hf _ => ex a w _ (hf.ev q1)
      · simpa using Sub.app (Sub.nilrow true el t.size) (Sub.refl (eh ++ oh))
      · exact Sub.right (a := [_])
    · rename_i t y hx
      obtain ⟨v, hh, eh', q1, q2, q3, q4, q5⟩ := strip_okP hs hx (by intro e; cases e)
      refine fin _ _ _ hh eh' oh h2 q3 q2 (.perm ?_) (q5 d hnil) q5 fun a w hf _ => ex a w _ (hf.ev q1)
      rw [← List.append_assoc]; exact q4.append_right oh
    · rename_i l hx
      obtain ⟨v, hh, eh', q1, q2, q3, q4, q5⟩ := strip_okP hs hx (by intro e; cases e)
      refine fin _ _ _ hh eh' oh h2 q3 q2 (.perm ?_) (q5 d hnil) q5 fun a w hf _ => ex a w _ (hf.ev q1)
      rw [← List.append_assoc]; exact q4.append_right oh
    · cases h2
  unfold moveH at hm
  rw [hd] at hm
  simp only at hm
  cases hv : valOk c o with
  | true => rw [hv] at hm; cases hm
  | false =>
  rw [hv] at hm
  simp only [cond_false] at hm
  split at hm
  case h_1 => cases hm
  case h_2 hno =>
  obtain ⟨dst, op, ty, pos, af, gd⟩ := o
  cases op with
  | move x => exact mv x (fun a w v e => by subst e; rfl) h hno
  | assign x => exact mv x (fun a w v e => by subst e; rfl) h hno
  | load tid x =>
    have h : loadT c ⟨dst, .load tid x, ty, pos, af, gd⟩ S tid k (S.get x) = some r := h
    generalize hx : S.get x = dx at h
    unfold loadT at h
    split at h <;> first | cases h | skip
    rename_i j p off
    split at h <;> first | cases h | skip
    rename_i t y i hat hi
    split at h
    case isFalse => cases h
    case isTrue he =>
    cases htop : t.top with
    | false => rw [htop] at h; cases h
    | true =>
    rw [htop] at h
    simp only [cond_true] at h
    split at h
    case h_2 => cases h
    case h_1 y' hy =>
    split at h
    case h_2 => cases h
    case h_1 S1 hset =>
    obtain ⟨mid, hmm, oh', r1, r2, r3, r4⟩ := take_ok (C := C) (G := G) (hc.ty _ _ hi) hat he htop hy hset hs
    have hS1 : ∀ j, NilAt W S.env j → NilAt W S1.env j := fun i hi => by
      unfold St.setO at hset
      split at hset
      case h_2 => cases hset
      case h_1 ob _ =>
      cases hb : Nat.beq (offP ob.t p) off with
      | false => rw [hb] at hset; cases hset
      | true =>
      rw [hb] at hset
      simp only [cond_true] at hset
      split at hset
      case h_2 => cases hset
      case h_1 z _ =>
      simp only [Option.some.injEq] at hset
      subst hset
      exact hi.kill
    refine fin S1 _ (sv t mid) hmm eh oh' h r2 ⟨mid, htop, rfl, r1⟩ (.perm ?_) (hS1 d hnil) hS1 fun a w hf hb => ?_
    · exact (List.Perm.append_left eh r3).trans (List.perm_append_comm_assoc _ _ _)
    · have h1 := hf.ev (get_ref hs.env hx)
      simp [execOp, h1, Instr.loadAt, Instr.sureAddr, r4 w hb]
  | _ => cases hm

theorem heads_ok (hc : CtxOk P G c) (hn : c.n = N) {all tail : List Oper} {hs0 : List Chunk} : ∀ (heads : List Oper) (S : St) (e : Env) (eh oh : List Chunk), opsE c all (heads ++ tail) S k = some r → (∀ o ∈ heads, (valOk c o || moveH c o) = true) → SRel S W e eh oh → Eqv hs0 (eh ++ oh) → (∀ o ∈ heads, ∀ d, o.dst = some d → NilAt W S.env d) → (heads.map (·.dst)).Nodup →
    ∃ hl : List (Oper × Value), hl.map (·.1) = heads ∧ (∀ i o v, hl[i]? = some (o, v) → (Head P N C all.toArray (envs hl i e) hs0 (Inv G W.φ) o v ∧ (quietB o = true → HeadQ P N C all.toArray (envs hl i e) hs0 (Inv G W.φ) o v)) ∧ ∃ d, o.dst = some d ∧ d < N) ∧
      ∃ S' eh' oh', opsE c all tail S' k = some r ∧ SRel S' W (envs hl hl.length e) eh' oh' ∧ Sub hs0 (eh' ++ oh')
  | [], S, e, eh, oh, h, _, hs, hq, _, _ => ⟨[], rfl, by simp, S, eh, oh, h, hs, hq.1⟩
  | o :: heads, S, e, eh, oh, h, hv, hs, hq, hnil, hnd => by
    simp only [List.map_cons, List.nodup_cons] at hnd
    obtain ⟨d, hd⟩ := valOk_dst (hv o List.mem_cons_self)
    have hne : ∀ o' ∈ heads, ∀ d', o'.dst = some d' → d' ≠ d := fun o' ho' d' hd' e => hnd.1 (List.mem_map.2 ⟨o', ho', by rw [hd', hd, e]⟩)
    -- one head is done
    have go : ∀ (S2 : St) (v : Value) (eh2 oh2 : List Chunk), opsE c all (heads ++ tail) S2 k = some r → SRel S2 W (putl e d v) eh2 oh2 → Eqv hs0 (eh2 ++ oh2) → (∀ j, j ≠ d → NilAt W S.env j → NilAt W S2.env j) → d < N → (Head P N C all.toArray e hs0 (Inv G W.φ) o v ∧ (quietB o = true → HeadQ P N C all.toArray e hs0 (Inv G W.φ) o v)) →
        ∃ hl : List (Oper × Value), hl.map (·.1) = o :: heads ∧ (∀ i o v, hl[i]? = some (o, v) → (Head P N C all.toArray (envs hl i e) hs0 (Inv G W.φ) o v ∧ (quietB o = true → HeadQ P N C all.toArray (envs hl i e) hs0 (Inv G W.φ) o v)) ∧ ∃ d, o.dst = some d ∧ d < N) ∧
          ∃ S' eh' oh', opsE c all tail S' k = some r ∧ SRel S' W (envs hl hl.length e) eh' oh' ∧ Sub hs0 (eh' ++ oh') := fun S2 v eh2 oh2 h2 hs2 hq2 hn2 hdN hh => by
      obtain ⟨hl, q1, q2, q3⟩ := heads_ok hc hn heads S2 (putl e d v) eh2 oh2 h2 (fun o ho => hv o (List.mem_cons_of_mem _ ho)) hs2 hq2 (fun o' ho' d' hd' => hn2 d' (hne o' ho' d' hd') (hnil o' (List.mem_cons_of_mem _ ho') d' hd')) hnd.2
      have hput : putOE e o.dst v = putl e d v := by rw [hd]; rfl
      refine ⟨(o, v) :: hl, by simp [q1], fun i o' v' hi => ?_, ?_⟩
      · cases i with
        | zero =>
          simp only [List.getElem?_cons_zero, Option.some.injEq, Prod.mk.injEq] at hi
          obtain ⟨rfl, rfl⟩ := hi
          exact ⟨hh, d, hd, hdN⟩
        | succ i =>
          have := q2 i o' v' (by simpa using hi)
          simpa [envs, hput] using this
      · obtain ⟨S', eh', oh', g1, g2, g3⟩ := q3
        exact ⟨S', eh', oh', g1, by simpa [envs, hput] using g2, g3⟩
    -- its slot takes a value
    have go0 : ∀ (dD : D) (v : Value), opsE c all (heads ++ tail) (S.put d dD) k = some r → DR W dD v [] → d < N → (Head P N C all.toArray e hs0 (Inv G W.φ) o v ∧ (quietB o = true → HeadQ P N C all.toArray e hs0 (Inv G W.φ) o v)) →
        ∃ hl : List (Oper × Value), hl.map (·.1) = o :: heads ∧ (∀ i o v, hl[i]? = some (o, v) → (Head P N C all.toArray (envs hl i e) hs0 (Inv G W.φ) o v ∧ (quietB o = true → HeadQ P N C all.toArray (envs hl i e) hs0 (Inv G W.φ) o v)) ∧ ∃ d, o.dst = some d ∧ d < N) ∧
          ∃ S' eh' oh', opsE c all tail S' k = some r ∧ SRel S' W (envs hl hl.length e) eh' oh' ∧ Sub hs0 (eh' ++ oh') := fun dD v h2 hdr hdN hh =>
      go (S.put d dD) v eh oh h2 ⟨hs.env.put0 (hnil o List.mem_cons_self d hd) hdr, hs.obs, hs.nd⟩ hq (fun j hj hnj D' hD' => hnj D' (by rw [show (S.put d dD).env = putl S.env d dD from rfl, look_putl_ne hj] at hD'; exact hD')) hdN hh
    -- an operation that is wanted
    have yes : opE c o S (fun S' => opsE c all (heads ++ tail) S' k) = some r → (∀ a, Fr a N e → Region.wanted o (yielded all.toArray a.tmps) = true) → ∃ hl : List (Oper × Value), hl.map (·.1) = o :: heads ∧ (∀ i o v, hl[i]? = some (o, v) → (Head P N C all.toArray (envs hl i e) hs0 (Inv G W.φ) o v ∧ (quietB o = true → HeadQ P N C all.toArray (envs hl i e) hs0 (Inv G W.φ) o v)) ∧ ∃ d, o.dst = some d ∧ d < N) ∧
          ∃ S' eh' oh', opsE c all tail S' k = some r ∧ SRel S' W (envs hl hl.length e) eh' oh' ∧ Sub hs0 (eh' ++ oh') := fun h2 hw => by
      unfold opE at h2
      have hvo := hv o List.mem_cons_self
      cases hval : valOk c o with
      | false =>
        rw [hval] at h2 hvo
        obtain ⟨S2, v, eh2, oh2, g1, g2, g3, g4, g5, g6⟩ := moveH_ok (N := N) (C := C) hc hn hd (by simpa using hvo) h2 hs (hnil o List.mem_cons_self d hd)
        refine go S2 v eh2 oh2 g1 g3 (hq.trans g4) g5 g2 ⟨fun a hf => .inr ⟨hw a hf, fun w hb => ?_⟩, fun _ a hf => .inr ⟨hw a hf, fun w hb => g6 a w hf (hq.1.hb hb)⟩⟩
        rw [g6 a w hf (hq.1.hb hb)]
        exact ⟨rfl, hb⟩
      | true =>
      rw [hval] at h2
      cases hqo : quietOp o.op with
      | true =>
        obtain ⟨dD, h3, h4⟩ := valV_ok (N := N) (C := C) hc hqo h2
        unfold out at h3
        rw [hd] at h3
        simp only at h3
        cases hb : Nat.blt d c.n with
        | false => rw [hb] at h3; cases h3
        | true =>
          rw [hb] at h3
          obtain ⟨v, g1, g2⟩ := h4 W e eh oh hs
          have hr : ∀ a w, Fr a N e → Hb C w hs0 (Inv G W.φ) → (execOp a.eval o).run P w = .ok (.value v) w := fun a w hf hb => g2 o.dst o.type o.pos o.after o.guard a w hf (hq.1.hb hb)
          refine go0 dD v h3 g1 (hn ▸ blt_ok hb) ⟨fun a hf => .inr ⟨hw a hf, fun w hb => ?_⟩, fun _ a hf => .inr ⟨hw a hf, fun w hb => hr a w hf hb⟩⟩
          rw [hr a w hf hb]
          exact ⟨rfl, hb⟩
      | false =>
      obtain ⟨dD, h3, h4⟩ := valE_ok (N := N) (C := C) hc h2
      unfold out at h3
      rw [hd] at h3
      simp only at h3
      cases hb : Nat.blt d c.n with
      | false => rw [hb] at h3; cases h3
      | true =>
        rw [hb] at h3
        obtain ⟨v, g1, g2⟩ := h4 W e eh oh hs
        refine go0 dD v h3 g1 (hn ▸ blt_ok hb) ⟨fun a hf => .inr ⟨hw a hf, fun w hb => ?_⟩, fun hqb => absurd (show quietOp o.op = true from hqb) (by rw [hqo]; simp)⟩
        have h5 := g2 o.dst o.type o.pos o.after o.guard a w hf (hq.1.hb hb)
        generalize (execOp a.eval ⟨o.dst, o.op, o.type, o.pos, o.after, o.guard⟩).run P w = x at h5
        cases x with
        | halt x w2 => exact h5.elim
        | ok x w2 =>
          cases x <;> first | exact h5.elim | skip
          · exact ⟨h5.1, hq.2.hb h5.2⟩
          · exact Calls.mono h5 fun y w3 hy => ⟨hy.1, hq.2.hb hy.2⟩
    rw [List.cons_append] at h
    unfold opsE at h
    split at h
    · rename_i hg
      exact yes h fun a _ => by simp [Region.wanted, hg]
    · rename_i j want hg
      split at h
      case h_2 => cases h
      case h_1 s d' hs' hd' =>
      have hdd : d' = d := by rw [hd] at hd'; injection hd' with hd'; exact hd'.symm
      subst hdd
      split at h
      · rename_i b hl
        obtain ⟨v, h', _, g1, g2, _⟩ := hs.env.look hl
        obtain ⟨cs, _, g3, g4⟩ := g2
        obtain ⟨rfl, _⟩ := g4
        subst g3
        have hw : ∀ a, Fr a N e → Region.wanted o (yielded all.toArray a.tmps) = ((b : Bool) == want) := fun a hf => wanted_of hf hg (dstOf_eq hs') (b := b) g1
        have hb : (bif want then b else !b) = (b == want) := by cases want <;> cases (b : Bool) <;> rfl
        rw [hb] at h
        cases hbw : ((b : Bool) == want) with
        | true =>
          rw [hbw] at h
          have hbe : b = want := by simpa using hbw
          have e1 : S.put s (vBool want) = S := by
            unfold St.put
            rw [putl_same (by rw [← vbool_eq hbe]; exact hl)]
          rw [e1] at h
          exact yes h fun a hf => (hw a hf).trans hbw
        | false =>
          rw [hbw] at h
          have hbe : b = !want := by cases want <;> cases (b : Bool) <;> simp_all
          have e1 : S.put s (vBool (!want)) = S := by
            unfold St.put
            rw [putl_same (by rw [← vbool_eq hbe]; exact hl)]
          rw [e1] at h
          simp only [cond_false] at h
          cases hb2 : Nat.blt d' c.n with
          | false => rw [hb2] at h; cases h
          | true =>
            rw [hb2] at h
            exact go0 .udf undef h ⟨rfl, rfl⟩ (hn ▸ blt_ok hb2) ⟨fun a hf => .inl ⟨(hw a hf).trans hbw, rfl⟩, fun _ a hf => .inl ⟨(hw a hf).trans hbw, rfl⟩⟩
      · rename_i hl
        obtain ⟨v, h', _, g1, g2, _⟩ := hs.env.look hl
        obtain ⟨rfl, _⟩ := g2
        cases hb2 : Nat.blt d' c.n with
        | false => rw [hb2] at h; cases h
        | true =>
          rw [hb2] at h
          exact go0 .udf undef h ⟨rfl, rfl⟩ (hn ▸ blt_ok hb2) ⟨fun a hf => .inl ⟨wanted_undef hf hg (dstOf_eq hs') g1, rfl⟩, fun _ a hf => .inl ⟨wanted_undef hf hg (dstOf_eq hs') g1, rfl⟩⟩
      · cases h

theorem headOk_nodup {l : List Oper} {n : Nat} (hF : HeadForm0 l n) (hd : ∀ o ∈ l.take n, ∃ d, o.dst = some d) : ((l.take n).map (·.dst)).Nodup := by
  rw [List.nodup_iff_pairwise_ne, List.pairwise_iff_getElem]
  intro i j hi hj hij
  simp only [List.length_map, List.length_take] at hi hj
  simp only [List.getElem_map, List.getElem_take]
  obtain ⟨d, hdd⟩ := hd (l[j]'(by omega)) (by
    rw [List.mem_iff_getElem]
    exact ⟨j, by simp only [List.length_take]; omega, by simp⟩)
  rw [hdd]
  exact (hF.dist i j _ _ d (by omega) (by omega) (List.getElem?_eq_getElem (by omega)) (List.getElem?_eq_getElem (by omega)) (by omega) hdd).1

theorem regE_ok (hm : P.follows .mixedOrders = true) (hc : CtxOk P G c) (hn : c.n = N) {id : Nat} {ops : Array Oper} {dr : Bool} {an : Ann} {k : Ex → St → Option Rt} (h : regE c ops.toList dr an S k = some r) (hK : ∀ o ∈ ops.toList, ∀ v a, K a → K (a.put o.dst v))
    (hQ : ∀ S', k .nrm S' = some r → ∀ a w, At N C G S' a w → K a → Q .normal a w) (hat : At N C G S a w) (ha : K a) : (Code.region id ops dr).wp P Q a w := by
  obtain ⟨l⟩ := ops
  have h : regE c l dr an S k = some r := h
  have hK : ∀ o ∈ l, ∀ v a, K a → K (a.put o.dst v) := hK
  unfold regE at h
  cases dr with
  | false =>
    exact wp_region_lit (opsE_ok hc hn l S h hK hQ a w hat ha)
  | true =>
    simp only [cond_true] at h
    cases an <;> first | (cases h; done) | skip
    rename_i n _
    replace h : (bif drawB c n l then opsE c l l ⟨strips (l.take n) S.env, S.objs⟩ (k .nrm) else none) = some r := h
    cases hB : drawB c n l with
    | false => rw [hB] at h; cases h
    | true =>
    rw [hB] at h
    simp only [cond_true] at h
    unfold drawB at hB
    simp only [Bool.and_eq_true, List.all_eq_true, Bool.or_eq_true (headOk _ _)] at hB
    have hF0 : HeadForm0 l n := by
      rcases hB.1 with h1 | h1
      · exact headForm0 (headOk_spec h1)
      · obtain ⟨_, _, h2⟩ := headOkB_spec h1
        exact h2.form
    obtain ⟨W, e, eh, oh, q1, q2, q3⟩ := hat
    obtain ⟨hs', g1, g2, g3⟩ := strips_ok (l.take n) _ _ q1.env
    have hb2 := (Sub.app g2 (Sub.refl oh)).hb q3
    have hsp : l = l.take n ++ l.drop n := (List.take_append_drop n l).symm
    obtain ⟨hl, p1, p2, S', eh3, oh3, p3, p4, p5⟩ := heads_ok (tail := l.drop n) (hs0 := hs' ++ oh) hc hn (l.take n) ⟨strips (l.take n) S.env, S.objs⟩ e hs' oh (by rw [← hsp]; exact h) hB.2 ⟨g1, q1.obs, q1.nd⟩ (.perm (List.Perm.refl _)) g3 (headOk_nodup hF0 fun o ho => valOk_dst (hB.2 o ho))
    have hKh : ∀ p ∈ hl, ∀ a, K a → K (a.put p.1.dst p.2) := fun p hp a ha => by
      have : p.1 ∈ l.take n := by rw [← p1]; exact List.mem_map.2 ⟨p, hp, rfl⟩
      exact hK p.1 (List.mem_of_mem_take this) _ _ ha
    have htail : ∀ a' w', Fr a' N (envs hl hl.length e) → Hb C w' (hs' ++ oh) (Inv G W.φ) → K a' → wpList P l.toArray Q (l.drop n) a' w' := fun a' w' hf' hb' ha' =>
      opsE_ok hc hn (l.drop n) S' p3 (fun o ho => hK o (List.mem_of_mem_drop ho)) hQ a' w' ⟨W, _, _, _, p4, hf', p5.hb hb'⟩ ha'
    rcases hB.1 with hB1 | hB1
    · exact draw_ok (I := Inv G W.φ) hm hB1 p1 (fun i o v hi => ⟨(p2 i o v hi).1.1, (p2 i o v hi).2⟩) hKh htail a w q2 hb2 ha
    · obtain ⟨ob, d, hFB⟩ := headOkB_spec hB1
      refine draw_okB (I := Inv G W.φ) hm hFB p1 (fun i o v hi => ⟨(p2 i o v hi).1.1, (p2 i o v hi).2⟩) (fun i o v hi hqb => (p2 i o v hi).1.2 hqb) hKh htail (fun a' w' hf' hb' ha' => ?_) a w q2 hb2 ha
      have hlt := hFB.lt
      have hdrop : l.drop n = ob :: l.drop (n + 1) := by
        rw [List.drop_eq_getElem_cons hlt]
        congr 1
        have := hFB.op
        simpa [List.getElem?_eq_getElem hlt] using this
      rw [hdrop] at p3
      unfold opsE at p3
      rw [hFB.gd] at p3
      obtain ⟨t, m, ps, hop⟩ := hFB.bs
      obtain ⟨dst, op, ty, pos, af, gd⟩ := ob
      simp only at hop
      subst hop
      have hdst : dst = some d := hFB.dst
      subst hdst
      have hv : valOk c ⟨some d, .buildSlice t m ps, ty, pos, af, gd⟩ = false := by
        unfold valOk
        simp only
        cases mem d c.tk <;> cases mem d c.ef <;> rfl
      simp only [opE, hv, cond_false] at p3
      obtain ⟨S2, e1, e2⟩ := buildSlice_ext (N := N) (C := C) hc hn p3
      obtain ⟨v, w2, r1, r2, r3⟩ := e2 a' w' ⟨W, _, _, _, p4, hf', p5.hb hb'⟩
      refine ⟨v, w2, r1, r2, opsE_ok hc hn (l.drop (n + 1)) S2 e1 (fun o ho => hK o (List.mem_of_mem_drop ho)) hQ _ _ r3 ?_⟩
      exact hK _ (List.mem_of_getElem? (by simpa using hFB.op)) v a' ha'
end
end Go.Lf
