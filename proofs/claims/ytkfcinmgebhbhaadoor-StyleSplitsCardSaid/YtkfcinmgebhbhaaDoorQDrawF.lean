/-
  Regions that draw their order: their form; frames with the values of some heads.
-/
import Derived.Test.YtkfcinmgebhbhaaDoorQMem
import Derived.StillTail
namespace Go.Eng
open Go Go.RowKit

/-- The region's form: every edge points back; heads read only what heads ahead of them that they wait for have written, or nothing of the region's; no two heads write one slot; the tail waits for all heads, and is a chain. -/
def headOk (l : List Oper) (n : Nat) : Bool :=
  let ops := l.toArray
  Region.noSelect ops && decide (n ≤ ops.size)
  && ((List.range ops.size).all fun i => match ops[i]? with | some o => o.after.all fun e => !Region.binds .any e || decide (e.on < i) | none => true)
  && ((List.range n).all fun i => match ops[i]? with
      | some oi => (List.range n).all fun j => match ops[j]? with
        | some oj => decide (i = j) || (match oj.dst with
          | some s => decide (oi.dst ≠ some s) && (!(oi.looksAt ops).contains s || (decide (j < i) && Region.waitsFor .any ops i j) || (decide (i < j) && Region.waitsFor .any ops j i))
          | none => true)
        | none => true
      | none => true)
  && (decide (n = ops.size) || (Region.sinkB .any ops n && Region.chainB .any ops n))

/-- what an operation waits for, at any distance -/
def reachB (ops : Array Oper) : Nat → Nat → Nat → Bool
  | 0, i, t => Nat.beq i t
  | f + 1, i, t => Nat.beq i t || match ops[i]? with
    | some o => o.after.any fun x => Region.binds .any x && reachB ops f x.on t
    | none => false
/-- an operation that reads at most -/
def quietB (o : Oper) : Bool := match o.op with
  | .call cl => match cl.callee with | .value _ => false | _ => true
  | _ => true
def headOkB (l : List Oper) (n : Nat) : Bool :=
  let ops := l.toArray
  Region.noSelect ops && decide (n + 1 ≤ ops.size)
  && ((List.range ops.size).all fun i => match ops[i]? with | some o => o.after.all fun e => !Region.binds .any e || decide (e.on < i) | none => true)
  && ((List.range n).all fun i => match ops[i]? with
      | some oi => (List.range n).all fun j => match ops[j]? with
        | some oj => decide (i = j) || (match oj.dst with
          | some s => decide (oi.dst ≠ some s) && (!(oi.looksAt ops).contains s || (decide (j < i) && Region.waitsFor .any ops i j) || (decide (i < j) && Region.waitsFor .any ops j i))
          | none => true)
        | none => true
      | none => true)
  && Region.chainB .any ops n && (decide (n + 1 = ops.size) || (Region.sinkB .any ops (n + 1) && Region.chainB .any ops (n + 1)))
  && (match ops[n]? with
      | some ob => ob.guard.isNone && (match ob.op with | .buildSlice _ _ _ => true | _ => false) && (match ob.dst with
        | some d => (List.range n).all fun j => match ops[j]? with
          | some oj => decide (oj.dst ≠ some d) && !(oj.looksAt ops).contains d && (quietB oj || reachB ops n n j) && (match oj.dst with
            | some s => !(ob.looksAt ops).contains s || Region.waitsFor .any ops n j
            | none => true)
          | none => true
        | none => false)
      | none => false)
section
variable {P : Program} {Q : Exit → Act → World → Prop}
/-- The frame with the values of those heads that have been carried out. -/
def puts : List (Oper × Value) → (Nat → Bool) → Nat → Act → Act
  | [], _, _, a => a
  | (o, v) :: r, L, k, a => puts r L (k + 1) (if L k then a.put o.dst v else a)

theorem puts_size (hl : List (Oper × Value)) (L : Nat → Bool) : ∀ k a, (puts hl L k a).tmps.size = a.tmps.size ∧ (puts hl L k a).defers = a.defers := by
  induction hl with
  | nil => intro k a; exact ⟨rfl, rfl⟩
  | cons p r ih =>
    obtain ⟨o, v⟩ := p
    intro k a
    have h1 := ih (k + 1) (if L k then a.put o.dst v else a)
    unfold puts
    rw [h1.1, h1.2]
    by_cases h : L k = true
    · simp only [h, if_true]
      cases o.dst <;> simp [Act.put]
    · simp [h]

theorem puts_none (hl : List (Oper × Value)) (L : Nat → Bool) (s : Nat) : ∀ k a, (∀ j o v, hl[j]? = some (o, v) → L (k + j) = true → o.dst ≠ some s) → (puts hl L k a).tmps[s]? = a.tmps[s]? := by
  induction hl with
  | nil => intro k a _; rfl
  | cons p r ih =>
    obtain ⟨o, v⟩ := p
    intro k a h
    unfold puts
    rw [ih (k + 1) _ fun j o' v' hj hL => h (j + 1) o' v' (by simpa using hj) (by rwa [show k + (j + 1) = k + 1 + j by omega])]
    by_cases hk : L k = true
    · simp only [hk, if_true]
      have := h 0 o v rfl (by simpa using hk)
      cases hd : o.dst with
      | none => simp [Act.put]
      | some d =>
        have hne : d ≠ s := fun e => this (by rw [hd, e])
        simp [Act.put, Array.getElem?_setIfInBounds_ne hne]
    · simp [hk]

theorem puts_some (hl : List (Oper × Value)) (L : Nat → Bool) (s : Nat) : ∀ k a j o v, hl[j]? = some (o, v) → L (k + j) = true → o.dst = some s → s < a.tmps.size →
    (∀ i o' v', hl[i]? = some (o', v') → i ≠ j → o'.dst ≠ some s) → (puts hl L k a).tmps[s]? = some v := by
  induction hl with
  | nil => intro k a j o v hj; simp at hj
  | cons p r ih =>
    obtain ⟨o0, v0⟩ := p
    intro k a j o v hj hL hd hs hne
    unfold puts
    cases j with
    | zero =>
      simp only [List.getElem?_cons_zero, Option.some.injEq, Prod.mk.injEq] at hj
      obtain ⟨rfl, rfl⟩ := hj
      rw [puts_none r L s (k + 1) _ fun j o' v' hj' _ => hne (j + 1) o' v' (by simpa using hj') (by omega)]
      simp only [Nat.add_zero] at hL
      simp [hL, hd, Act.put, hs]
    | succ j =>
      refine ih (k + 1) _ j o v (by simpa using hj) (by rwa [show k + 1 + j = k + (j + 1) by omega]) hd ?_ fun i o' v' hi hij => hne (i + 1) o' v' (by simpa using hi) (by omega)
      by_cases hk : L k = true
      · simp only [hk, if_true]
        cases o0.dst <;> simpa [Act.put] using hs
      · simpa [hk] using hs

theorem puts_congr (hl : List (Oper × Value)) (L L' : Nat → Bool) : ∀ k a, (∀ j, j < hl.length → L (k + j) = L' (k + j)) → puts hl L k a = puts hl L' k a := by
  induction hl with
  | nil => intro k a _; rfl
  | cons p r ih =>
    obtain ⟨o, v⟩ := p
    intro k a h
    unfold puts
    have h0 := h 0 (by simp)
    simp only [Nat.add_zero] at h0
    rw [h0]
    exact ih _ _ fun j hj => by
      have := h (j + 1) (by simp; omega)
      rwa [show k + (j + 1) = k + 1 + j by omega] at this

theorem act_ext {a b : Act} (h1 : a.tmps.size = b.tmps.size) (h2 : a.defers = b.defers) (h3 : ∀ s : Nat, a.tmps[s]? = b.tmps[s]?) : a = b := by
  cases a with
  | mk at1 ad =>
    cases b with
    | mk bt bd =>
      simp only at h1 h2 h3
      subst h2
      congr 1
      exact Array.ext_getElem? h3

/-- Distinct slots. -/
def Distinct (hl : List (Oper × Value)) : Prop := ∀ (i j : Nat) (o : Oper) (v : Value) (o' : Oper) (v' : Value) (s : Nat), hl[i]? = some (o, v) → hl[j]? = some (o', v') → i ≠ j → o.dst = some s → o'.dst ≠ some s

theorem puts_step {hl : List (Oper × Value)} (hd : Distinct hl) {L : Nat → Bool} {i : Nat} {o : Oper} {v : Value} (hi : hl[i]? = some (o, v)) (hL : L i = false) (a : Act) :
    (puts hl L 0 a).put o.dst v = puts hl (fun j => L j || Nat.beq j i) 0 a := by
  refine act_ext ?_ ?_ fun s => ?_
  · rw [(puts_size hl _ 0 a).1]
    cases o.dst <;> simp [Act.put, (puts_size hl L 0 a).1]
  · rw [(puts_size hl _ 0 a).2]
    cases o.dst <;> simp [Act.put, (puts_size hl L 0 a).2]
  · by_cases hs : s < a.tmps.size
    · by_cases hex : ∃ j o' v', hl[j]? = some (o', v') ∧ o'.dst = some s ∧ (L j || Nat.beq j i) = true
      · obtain ⟨j, o', v', hj, hds, hLj⟩ := hex
        rw [puts_some hl _ s 0 a j o' v' hj (by simpa using hLj) hds hs fun k o2 v2 hk hkj hd2 => hd k j o2 v2 o' v' s hk hj hkj hd2 hds]
        by_cases hji : j = i
        · subst hji
          have : (o', v') = (o, v) := Option.some.inj (hj.symm.trans hi)
          injection this with h1 h2
          subst h1 h2
          have hlt : s < (puts hl L 0 a).tmps.size := by rw [(puts_size hl L 0 a).1]; exact hs
          simp [hds, Act.put, hlt]
        · have hLj' : L j = true := by simpa [hji] using hLj
          have hne : o.dst ≠ some s := hd j i o' v' o v s hj hi hji hds
          have h1 := puts_some hl L s 0 a j o' v' hj (by simpa using hLj') hds hs fun k o2 v2 hk hkj hd2 => hd k j o2 v2 o' v' s hk hj hkj hd2 hds
          cases hod : o.dst with
          | none => simpa [Act.put] using h1
          | some d =>
            have hne' : d ≠ s := fun e => hne (by rw [hod, e])
            simpa [Act.put, Array.getElem?_setIfInBounds_ne hne'] using h1
      · rw [puts_none hl _ s 0 a fun j o' v' hj hLj hds => hex ⟨j, o', v', hj, hds, by simpa using hLj⟩]
        have h1 := puts_none hl L s 0 a fun j o' v' hj hLj hds => hex ⟨j, o', v', hj, hds, by simp at hLj; simp [hLj]⟩
        cases hod : o.dst with
        | none => simpa [Act.put] using h1
        | some d =>
          have hne' : d ≠ s := fun e => hex ⟨i, o, v, hi, by rw [hod, e], by simp⟩
          simpa [Act.put, Array.getElem?_setIfInBounds_ne hne'] using h1
    · have h1 : ∀ b : Act, b.tmps.size = a.tmps.size → b.tmps[s]? = none := fun b hb => Array.getElem?_eq_none (by omega)
      rw [h1 _ (by cases o.dst <;> simp [Act.put, (puts_size hl L 0 a).1]), h1 _ (puts_size hl _ 0 a).1]

theorem getD_tf {listed : Array Bool} {j : Nat} (h : j < listed.size) : listed.getD j true = listed.getD j false := by simp [h]

/-- The tail, in order. -/
theorem chain_any {ops : Array Oper} {n : Nat} (hedge : ∀ (i : Nat) (o : Oper), ops[i]? = some o → ∀ x ∈ o.after, Region.binds .any x = true → x.on < i) (hc : n = ops.size ∨ Region.chainB .any ops n = true) :
    ∀ (fuel m : Nat) (listed : Array Bool) (a : Act) (w : World), n ≤ m → m ≤ ops.size → listed.size = ops.size → (∀ j, j < ops.size → listed.getD j false = decide (j < m)) → ops.size - m ≤ fuel →
      wpList P ops Q (ops.toList.drop m) a w → wpAny P .any ops Q fuel listed a w := by
  intro fuel
  induction fuel with
  | zero =>
    intro m listed a w hnm hm hsz hl hfu h
    have hme : m = ops.size := by omega
    have hnr : Region.ready .any ops listed = [] := by
      apply List.eq_nil_iff_forall_not_mem.2
      intro j hj
      obtain ⟨h1, o, ho, _⟩ := mem_ready.1 hj
      have hlt := (Array.getElem?_eq_some_iff.1 ho).1
      rw [getD_tf (by omega), hl j hlt, hme] at h1
      simp at h1
      omega
    refine ⟨hnr, ?_⟩
    rw [List.drop_eq_nil_of_le (by simp [hme])] at h
    exact h
  | succ fuel ih =>
    intro m listed a w hnm hm hsz hl hfu h
    by_cases hme : m = ops.size
    · have hnr : Region.ready .any ops listed = [] := by
        apply List.eq_nil_iff_forall_not_mem.2
        intro j hj
        obtain ⟨h1, o, ho, _⟩ := mem_ready.1 hj
        have hlt := (Array.getElem?_eq_some_iff.1 ho).1
        rw [getD_tf (by omega), hl j hlt, hme] at h1
        simp at h1
        omega
      rw [List.drop_eq_nil_of_le (by simp [hme])] at h
      exact ⟨fun _ => h, fun i hi => (by rw [hnr] at hi; cases hi)⟩
    · have hlt : m < ops.size := by omega
      have hmr : m ∈ Region.ready .any ops listed := by
        refine mem_ready.2 ⟨?_, ops[m], Array.getElem?_eq_getElem hlt, fun x hx hbx => ?_⟩
        · rw [getD_tf (by omega), hl m hlt]
          simp
        · have := hedge m _ (Array.getElem?_eq_getElem hlt) x hx hbx
          rw [hl _ (by omega)]
          simp [this]
      refine ⟨fun h0 => (by rw [h0] at hmr; cases hmr), fun i hi => ?_⟩
      obtain ⟨h1, o, ho, hall⟩ := mem_ready.1 hi
      have hil := (Array.getElem?_eq_some_iff.1 ho).1
      have hge : m ≤ i := by
        rw [getD_tf (by omega), hl i hil] at h1
        simpa using h1
      have him : i = m := by
        rcases Nat.lt_or_ge m i with h2 | h2
        · exfalso
          rcases hc with h3 | h3
          · omega
          · have h4 := List.all_eq_true.1 h3 i (List.mem_range.2 hil)
            simp only [Bool.or_eq_true, decide_eq_true_eq] at h4
            rcases h4 with h4 | h4
            · omega
            · obtain ⟨o', ho', x, hx, hb, hon⟩ := Region.waitsFor_spec h4
              have : o' = o := Option.some.inj (ho'.symm.trans ho)
              subst this
              have h5 := hall x hx hb
              rw [hon, hl _ (by omega)] at h5
              simp at h5
              omega
        · omega
      subst him
      have hd : ops.toList.drop i = ops[i] :: ops.toList.drop (i + 1) := by
        rw [List.drop_eq_getElem_cons (by simpa using hil)]
        simp
      rw [hd] at h
      have hw : wpOp P ops Q i (wpList P ops Q (ops.toList.drop (i + 1))) a w := by
        unfold wpOp
        rw [Array.getElem?_eq_getElem hil]
        exact h
      refine wpOp_mono (fun a' w' h' => ih (i + 1) _ a' w' (by omega) (by omega) (by simpa using hsz) (fun j hj => ?_) (by omega) h') hw
      by_cases hji : i = j
      · subst hji
        have h7 : i < listed.size := by omega
        simp [h7]
      · rw [getD_set_ne false hji, hl j hj]
        rw [Bool.eq_iff_iff]
        simp
        omega

theorem countP_lt {l : List Nat} {p p' : Nat → Bool} (hp : ∀ x ∈ l, p' x = true → p x = true) {y : Nat} (hy : y ∈ l) (h1 : p y = true) (h2 : p' y = false) : l.countP p' < l.countP p := by
  induction l with
  | nil => cases hy
  | cons x r ih =>
    have hmono : r.countP p' ≤ r.countP p := List.countP_mono_left fun z hz h => hp z (List.mem_cons_of_mem _ hz) h
    rcases List.mem_cons.1 hy with rfl | hy
    · simp [h1, h2]
      omega
    · have := ih (fun z hz h => hp z (List.mem_cons_of_mem _ hz) h) hy
      have hx := hp x List.mem_cons_self
      simp only [List.countP_cons]
      cases hpx : p' x
      · simp; omega
      · simp [hx hpx]; omega

structure HeadForm (l : List Oper) (n : Nat) : Prop where
  nosel : Region.noSelect l.toArray = true
  le : n ≤ l.length
  edge : ∀ (i : Nat) (o : Oper), l.toArray[i]? = some o → ∀ x ∈ o.after, Region.binds .any x = true → x.on < i
  dist : ∀ (i j : Nat) (oi oj : Oper) (s : Nat), i < n → j < n → l[i]? = some oi → l[j]? = some oj → i ≠ j → oj.dst = some s → oi.dst ≠ some s ∧ (s ∈ oi.looksAt l.toArray → (j < i ∧ Region.waitsFor .any l.toArray i j = true) ∨ (i < j ∧ Region.waitsFor .any l.toArray j i = true))
  tail : n = l.length ∨ (Region.sinkB .any l.toArray n = true ∧ Region.chainB .any l.toArray n = true)

theorem headOk_spec {l : List Oper} {n : Nat} (h : headOk l n = true) : HeadForm l n := by
  unfold headOk at h
  simp only [Bool.and_eq_true, decide_eq_true_eq, Bool.or_eq_true] at h
  obtain ⟨⟨⟨⟨h1, h2⟩, h3⟩, h4⟩, h5⟩ := h
  refine ⟨h1, by simpa using h2, fun i o ho x hx hbx => ?_, fun i j oi oj s hi hj hoi hoj hij hds => ?_, by simpa using h5⟩
  · have hlt := (Array.getElem?_eq_some_iff.1 ho).1
    have h6 := List.all_eq_true.1 h3 i (List.mem_range.2 hlt)
    rw [ho] at h6
    have h7 := Array.all_eq_true_iff_forall_mem.1 h6 x hx
    simpa [hbx] using h7
  · have h6 := List.all_eq_true.1 h4 i (List.mem_range.2 hi)
    have hoi' : l.toArray[i]? = some oi := by simpa using hoi
    have hoj' : l.toArray[j]? = some oj := by simpa using hoj
    rw [hoi'] at h6
    have h7 := List.all_eq_true.1 h6 j (List.mem_range.2 hj)
    rw [hoj'] at h7
    simp only [Bool.or_eq_true, decide_eq_true_eq, hds] at h7
    rcases h7 with h7 | h7
    · exact absurd h7 hij
    · simp only [Bool.and_eq_true, Bool.or_eq_true, Bool.not_eq_true', decide_eq_true_eq] at h7
      refine ⟨h7.1, fun hm => ?_⟩
      rcases h7.2 with (h8 | h8) | h8
      · rw [List.contains_iff_mem.2 hm] at h8
        cases h8
      · exact .inl h8
      · exact .inr h8

end
end Go.Eng
