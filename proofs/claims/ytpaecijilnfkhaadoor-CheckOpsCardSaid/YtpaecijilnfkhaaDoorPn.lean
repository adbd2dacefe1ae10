/- Plain facts: the walk and the machine. -/
import Derived.Test.YtpaecijilnfkhaaDoorPr
import Derived.Test.YtpaecijilnfkhaaDoorPm

namespace Go.Proofs.YtpaecijilnfkhaaDoor
open Go Go.Eng Go.RowKit

/-! the walk and the machine -/
def LevF (pc : Int) (f : FrameS) (l : LevS) : Prop :=
  (l.table = false ∧ f.kind = 10 ∧ f.items = l.items ∧ 0 ≤ f.items) ∨
  (l.table = true ∧ f.kind = 12 ∧ f.rows = l.rows ∧ f.wide = l.wide ∧ l.cells = f.cells + pc ∧ (0 < f.rows → l.cells ≤ f.wide) ∧ 0 ≤ f.rows ∧ 0 ≤ f.wide)
def pcS (k : WalkS) (m : MachS) (i : Nat) : Int := if k.inPara = 1 ∧ i + 1 = m.open_.length then 1 else 0
structure Sim (k : WalkS) (m : MachS) (la : Int) : Prop where
  para : m.para = true ↔ k.inPara = 1
  outb : k.inPara ≠ 1 → m.braces = []
  dep : k.depth = m.open_.length + m.braces.length + (if k.inPara = 1 then 1 else 0)
  text : k.inPara = 1 → (m.text = true ↔ la = 1)
  marks : k.marks = (m.braces.length : Int)
  links : k.links = ((m.braces.filter id).length : Int)
  lev : ∀ (i : Nat) l, m.open_[i]? = some l → ∃ f, k.stack[i]? = some f ∧ LevF (pcS k m i) f l
  bf : ∀ (i : Nat) b, m.braces[i]? = some b → ∃ f, k.stack[m.open_.length + 1 + i]? = some f ∧ (f.kind ≠ 2 ↔ b = true)
theorem Sim.last {k k' : WalkS} {m m' : MachS} {la la' : Int} (s : Sim k m la) (h : m' = { m with text := decide (la' = 1) }) (h1 : k'.stack = k.stack) (h2 : k'.depth = k.depth) (h3 : k'.inPara = k.inPara) (h4 : k'.marks = k.marks) (h5 : k'.links = k.links) : Sim k' m' la' := by
  subst h
  exact ⟨by rw [h3]; exact s.para, by rw [h3]; exact s.outb, by rw [h2, h3]; exact s.dep, fun _ => by simp, by rw [h4]; exact s.marks, by rw [h5]; exact s.links,
    by rw [h1]; intro i l hl; obtain ⟨f, a, b⟩ := s.lev i l hl; refine ⟨f, a, ?_⟩; have : pcS k' { m with text := decide (la' = 1) } i = pcS k m i := by unfold pcS; rw [h3]
       rw [this]; exact b, by rw [h1]; exact s.bf⟩
theorem any_filter (l : List Bool) : (0 : Int) < ((l.filter id).length : Int) ↔ l.any id = true := by
  induction l with
  | nil => simp
  | cons x r ih => cases x <;> simp_all <;> omega
theorem stack_push {st : List FrameS} {d i : Nat} {f : FrameS} (h : i < d) : (st.set d f)[i]? = st[i]? := List.getElem?_set_ne (by omega)
theorem stack_new {st : List FrameS} {d : Nat} {f : FrameS} (h : d < st.length) : (st.set d f)[d]? = some f := by simp [h]
section
variable {k : WalkS} {m : MachS} {n : Nat} {la kind wl : Int}
theorem Sim.free (s : Sim k m la) : ∀ la' t, (t = true ↔ la' = 1) → Sim k { m with text := t } la' := fun _ _ ht =>
  ⟨s.para, s.outb, s.dep, fun _ => ht, s.marks, s.links, s.lev, s.bf⟩
/-- braces: one more -/
theorem sim_brace {b : Bool} {f : FrameS} {li : Int} (ok : WOk k n) (s : Sim k m k.last) (hp : k.inPara = 1) (hb : f.kind ≠ 2 ↔ b = true) (hm : m.braces.length < 16) (hl : li = k.links + (if b = true then 1 else 0)) {ma : Int} (hma : ma = k.marks + 1) :
    Sim ⟨k.stack.set k.depth f, k.depth + 1, k.inPara, ma, li, k.last, k.s, k.styles, k.topics⟩ ⟨m.para, m.braces ++ [b], m.open_, decide (la = 1)⟩ la := by
  have hd := s.dep
  rw [if_pos hp] at hd
  have hdl := ok.depth_le
  have hln := ok.len
  refine ⟨s.para, fun h => absurd hp h, ?_, by simp, ?_, ?_, ?_, ?_⟩
  · simp [hp]; omega
  · simp [hma, s.marks]
  · rw [hl, s.links]; cases b <;> simp
  · intro i l hi
    obtain ⟨f2, h1, h2⟩ := s.lev i l hi
    have : i < m.open_.length := (List.getElem?_eq_some_iff.1 hi).1
    exact ⟨f2, by dsimp only; rw [stack_push (by omega)]; exact h1, h2⟩
  · intro i b2 hi
    dsimp only at hi ⊢
    by_cases hib : i < m.braces.length
    · rw [List.getElem?_append_left hib] at hi
      obtain ⟨f2, h1, h2⟩ := s.bf i b2 hi
      exact ⟨f2, by rw [stack_push (by omega)]; exact h1, h2⟩
    · have h3 : i = m.braces.length := by
        have := (List.getElem?_eq_some_iff.1 hi).1
        simp at this; omega
      subst h3
      simp at hi
      subst hi
      exact ⟨f, by rw [show m.open_.length + 1 + m.braces.length = k.depth by omega, stack_new (by omega)], hb⟩
theorem filter_take {l : List Bool} {b : Bool} (h : l[l.length - 1]? = some b) : ((l.take (l.length - 1)).filter id).length + (if b = true then 1 else 0) = (l.filter id).length := by
  have h1 : l = l.take (l.length - 1) ++ [b] := by
    have := (List.getElem?_eq_some_iff.1 h).1
    have h2 := List.take_append_drop (l.length - 1) l
    rw [drop_at h, List.drop_eq_nil_of_le (by omega)] at h2
    exact h2.symm
  conv => rhs; rw [h1]
  rw [List.filter_append, List.length_append]
  cases b <;> simp
/-- a brace less -/
theorem sim_close {li : Int} {f : FrameS} (s : Sim k m k.last) (hp : k.inPara = 1) (h0 : m.braces.length ≠ 0) (hf : k.stack[k.depth - 1]? = some f) (hl : li = if f.kind ≠ 2 then k.links - 1 else k.links) :
    Sim ⟨k.stack, k.depth - 1, k.inPara, k.marks - 1, li, k.last, k.s, k.styles, k.topics⟩ ⟨m.para, m.braces.take (m.braces.length - 1), m.open_, decide (la = 1)⟩ la := by
  have hd := s.dep
  rw [if_pos hp] at hd
  obtain ⟨b, hb⟩ : ∃ b, m.braces[m.braces.length - 1]? = some b := ⟨_, List.getElem?_eq_getElem (by omega)⟩
  obtain ⟨f2, h1, h2⟩ := s.bf _ b hb
  rw [show m.open_.length + 1 + (m.braces.length - 1) = k.depth - 1 by omega, hf] at h1
  injection h1 with h1
  subst h1
  have hft := filter_take hb
  refine ⟨s.para, fun h => absurd hp h, ?_, by simp, ?_, ?_, s.lev, ?_⟩
  · simp [hp]; omega
  · rw [s.marks]; simp; omega
  · rw [hl, s.links]
    cases b with
    | true => rw [if_pos (h2.2 rfl)]; simp at hft ⊢; omega
    | false => rw [if_neg (fun h => by have := h2.1 h; cases this)]; simp at hft ⊢; omega
  · intro i b2 hi
    dsimp only at hi ⊢
    rw [List.getElem?_take] at hi
    split at hi
    · exact s.bf i b2 hi
    · cases hi
theorem sim_inner (ok : WOk k n) (s : Sim k m k.last) (hp : k.inPara = 1) (hk : kind ≤ 7 ∨ kind = 9) (hk1 : 1 ≤ kind) :
    (innerS k kind).1 = (inlineS m kind).1 ∧ ((innerS k kind).1 = true → Sim (innerS k kind).2 { (inlineS m kind).2 with text := decide (kind = 1) } kind) := by
  have hpa : m.para = true := s.para.2 hp
  have hin := ok.inn hp
  have hd := s.dep
  rw [if_pos hp] at hd
  have hmk := s.marks
  have hli := s.links
  have haf := any_filter m.braces
  rw [← hli] at haf
  have same : Sim k { m with text := decide (kind = 1) } kind := s.free kind _ (by simp)
  have e : inlineS m kind = inlineS m kind := rfl
  conv at e =>
    rhs
    unfold inlineS
    rw [if_neg (by rw [hpa]; decide)]
  rw [e]
  unfold innerS
  by_cases h1 : kind = 1
  · rw [if_pos h1, if_pos h1]
    refine ⟨?_, fun _ => same⟩
    have ht := s.text hp
    cases hx : m.text with
    | true => rw [hx] at ht; exact decide_eq_false (fun h => h (ht.1 rfl))
    | false => rw [hx] at ht; exact decide_eq_true (fun h => by have := ht.2 h; cases this)
  · rw [if_neg h1, if_neg h1]
    by_cases h67 : kind = 6 ∨ kind = 7
    · rw [if_pos h67, if_neg (by omega), if_neg (by omega), if_neg (by omega)]
      exact ⟨rfl, fun _ => same⟩
    · rw [if_neg h67]
      by_cases h34 : kind = 3 ∨ kind = 4
      · rw [if_pos h34, if_pos (show kind = 2 ∨ kind = 3 ∨ kind = 4 by omega)]
        by_cases hl : 0 < k.links
        · rw [if_pos hl, if_pos (.inr ⟨by omega, haf.1 hl⟩)]
          exact ⟨rfl, fun h => by cases h⟩
        · rw [if_neg hl]
          by_cases hm : 16 ≤ k.marks
          · rw [if_pos hm, if_pos (.inl (by omega))]
            exact ⟨rfl, fun h => by cases h⟩
          · rw [if_neg hm, if_neg (by rintro (h | ⟨_, h⟩); omega; exact hl (haf.2 h))]
            refine ⟨rfl, fun _ => ?_⟩
            exact sim_brace ok s hp (b := decide (kind ≠ 2)) (by simp [zf]) (by omega) (by rw [if_pos (decide_eq_true (by omega))]) rfl
      · rw [if_neg h34]
        by_cases h2 : kind = 2
        · rw [if_pos h2, if_pos (show kind = 2 ∨ kind = 3 ∨ kind = 4 by omega)]
          by_cases hm : 16 ≤ k.marks
          · rw [if_pos hm, if_pos (.inl (by omega))]
            exact ⟨rfl, fun h => by cases h⟩
          · rw [if_neg hm, if_neg (by rintro (h | ⟨h, _⟩); omega; exact h h2)]
            refine ⟨rfl, fun _ => ?_⟩
            exact sim_brace ok s hp (b := decide (kind ≠ 2)) (by simp [zf]) (by omega) (by rw [if_neg (by simp [h2])]; omega) rfl
        · rw [if_neg h2, if_neg (show ¬ (kind = 2 ∨ kind = 3 ∨ kind = 4) by omega)]
          by_cases h5 : kind = 5
          · rw [if_pos h5, if_pos h5]
            by_cases hm : k.marks = 0
            · rw [if_pos hm, if_pos (by omega)]
              exact ⟨rfl, fun h => by cases h⟩
            · rw [if_neg hm, if_neg (by omega)]
              refine ⟨rfl, fun _ => ?_⟩
              obtain ⟨f, hf⟩ : ∃ f, k.stack[k.depth - 1]? = some f := ⟨_, List.getElem?_eq_getElem (by have := ok.len; have := ok.depth_le; omega)⟩
              have htop : k.top = some f := by rw [WalkS.top, if_neg (by omega)]; exact hf
              exact sim_close s hp (by omega) hf (by rw [htop])
          · rw [if_neg h5, if_neg h5, if_pos (show kind = 9 by omega), if_pos (show kind = 9 by omega)]
            by_cases hm : 0 < k.marks
            · rw [if_pos hm, if_pos (by omega)]
              exact ⟨rfl, fun h => by cases h⟩
            · rw [if_neg hm, if_neg (by omega)]
              refine ⟨rfl, fun _ => ?_⟩
              have hb0 : m.braces = [] := List.length_eq_zero_iff.1 (by omega)
              have hdd : k.depth - 1 = m.open_.length := by rw [hd, hb0]; simp
              have base : ∀ (st : List FrameS), (∀ (i : Nat) l, m.open_[i]? = some l → ∃ f, st[i]? = some f ∧ LevF 0 f l) →
                  Sim ⟨st, k.depth - 1, 0, k.marks, k.links, k.last, k.s, k.styles, k.topics⟩ ⟨false, m.braces, m.open_, decide (kind = 1)⟩ kind := by
                intro st hst
                refine ⟨by simp, fun _ => hb0, by simp [hdd, hb0], by simp, hmk, hli, fun i l hi => ?_, fun i b hi => by dsimp only at hi; rw [hb0] at hi; simp at hi⟩
                obtain ⟨f, a, b⟩ := hst i l hi
                refine ⟨f, a, ?_⟩
                have : pcS ⟨st, k.depth - 1, 0, k.marks, k.links, k.last, k.s, k.styles, k.topics⟩ ⟨false, m.braces, m.open_, decide (kind = 1)⟩ i = 0 := if_neg (by rintro ⟨h, _⟩; cases h)
                rw [this]; exact b
              by_cases ho : m.open_.length = 0
              · have htop : (⟨k.stack, k.depth - 1, 0, k.marks, k.links, k.last, k.s, k.styles, k.topics⟩ : WalkS).top = none := by rw [WalkS.top, if_pos (by dsimp only; omega)]
                rw [htop]
                dsimp only
                exact base _ (fun i l hi => by have := (List.getElem?_eq_some_iff.1 hi).1; omega)
              · obtain ⟨l, hl⟩ : ∃ l, m.open_[m.open_.length - 1]? = some l := ⟨_, List.getElem?_eq_getElem (by omega)⟩
                obtain ⟨f, hf, hlf⟩ := s.lev _ l hl
                have hpc : pcS k m (m.open_.length - 1) = 1 := if_pos ⟨hp, by omega⟩
                rw [hpc] at hlf
                have htop : (⟨k.stack, k.depth - 1, 0, k.marks, k.links, k.last, k.s, k.styles, k.topics⟩ : WalkS).top = some f := by
                  rw [WalkS.top, if_neg (by dsimp only; omega)]
                  dsimp only
                  rw [show k.depth - 1 - 1 = m.open_.length - 1 by omega]; exact hf
                rw [htop]
                dsimp only
                have other : ∀ (i : Nat) l, m.open_[i]? = some l → i + 1 ≠ m.open_.length → ∃ f, k.stack[i]? = some f ∧ LevF 0 f l := by
                  intro i l2 hi hne
                  obtain ⟨f2, a, b⟩ := s.lev i l2 hi
                  have : pcS k m i = 0 := if_neg (fun h => hne h.2)
                  rw [this] at b
                  exact ⟨f2, a, b⟩
                rcases hlf with ⟨c1, c2, c3, c4⟩ | ⟨c1, c2, c3, c4, c5, c6, c7, c8⟩
                · rw [if_neg (by omega)]
                  refine base _ (fun i l2 hi => ?_)
                  by_cases hne : i + 1 = m.open_.length
                  · have : i = m.open_.length - 1 := by omega
                    subst this
                    rw [hl] at hi; injection hi with hi; subst hi
                    exact ⟨f, hf, .inl ⟨c1, c2, c3, c4⟩⟩
                  · exact other i l2 hi hne
                · rw [if_pos c2]
                  refine base _ (fun i l2 hi => ?_)
                  have hilt := (List.getElem?_eq_some_iff.1 hi).1
                  by_cases hne : i + 1 = m.open_.length
                  · have : i = m.open_.length - 1 := by omega
                    subst this
                    rw [hl] at hi; injection hi with hi; subst hi
                    exact ⟨⟨f.kind, f.items, f.rows, f.cells + 1, f.wide⟩, by rw [show k.depth - 1 - 1 = m.open_.length - 1 by omega]; exact stack_new (by have := ok.len; have := ok.depth_le; omega), .inr ⟨c1, c2, c3, c4, by dsimp only; omega, c6, c7, c8⟩⟩
                  · obtain ⟨f2, a, b⟩ := other i l2 hi hne
                    exact ⟨f2, by rw [List.getElem?_set_ne (by omega)]; exact a, b⟩

theorem Sim.same (s : Sim k m k.last) : Sim k { m with text := decide (kind = 1) } kind := s.free kind _ (by simp)
/-- a level more -/
theorem sim_open {l : LevS} {f : FrameS} (ok : WOk k n) (s : Sim k m k.last) (hp : ¬ k.inPara = 1) (hf : LevF 0 f l) :
    Sim ⟨k.stack.set k.depth f, k.depth + 1, k.inPara, k.marks, k.links, k.last, k.s, k.styles, k.topics⟩ ⟨m.para, m.braces, m.open_ ++ [l], decide (la = 1)⟩ la := by
  have hd := s.dep
  have hb0 := s.outb hp
  rw [if_neg hp, hb0] at hd
  have hln := ok.len
  have hdl := ok.depth_le
  simp at hd
  refine ⟨s.para, fun _ => hb0, by simp [hp, hb0, hd], by simp, s.marks, s.links, fun i l2 hi => ?_, fun i b hi => by dsimp only at hi; rw [hb0] at hi; simp at hi⟩
  have hpc : pcS ⟨k.stack.set k.depth f, k.depth + 1, k.inPara, k.marks, k.links, k.last, k.s, k.styles, k.topics⟩ ⟨m.para, m.braces, m.open_ ++ [l], decide (la = 1)⟩ i = 0 := if_neg (fun h => hp h.1)
  rw [hpc]
  dsimp only at hi ⊢
  by_cases hil : i < m.open_.length
  · rw [List.getElem?_append_left hil] at hi
    obtain ⟨f2, a, b⟩ := s.lev i l2 hi
    have h0 : pcS k m i = 0 := if_neg (fun h => hp h.1)
    rw [h0] at b
    exact ⟨f2, by rw [stack_push (by omega)]; exact a, b⟩
  · have h3 : i = m.open_.length := by
      have := (List.getElem?_eq_some_iff.1 hi).1
      simp at this; omega
    subst h3
    simp at hi
    subst hi
    exact ⟨f, by rw [← hd]; exact stack_new (by omega), hf⟩
/-- the last level is turned -/
theorem sim_turn {l' : LevS} {f' : FrameS} (ok : WOk k n) (s : Sim k m k.last) (hp : ¬ k.inPara = 1) (h0 : m.open_.length ≠ 0) (hf : LevF 0 f' l') :
    Sim ⟨k.stack.set (k.depth - 1) f', k.depth, k.inPara, k.marks, k.links, k.last, k.s, k.styles, k.topics⟩ ⟨m.para, m.braces, m.open_.set (m.open_.length - 1) l', decide (la = 1)⟩ la := by
  have hd := s.dep
  have hb0 := s.outb hp
  rw [if_neg hp, hb0] at hd
  have hln := ok.len
  have hdl := ok.depth_le
  simp at hd
  refine ⟨s.para, fun _ => hb0, by simp [hp, hb0, hd], by simp, s.marks, s.links, fun i l2 hi => ?_, fun i b hi => by dsimp only at hi; rw [hb0] at hi; simp at hi⟩
  have hpc : pcS ⟨k.stack.set (k.depth - 1) f', k.depth, k.inPara, k.marks, k.links, k.last, k.s, k.styles, k.topics⟩ ⟨m.para, m.braces, m.open_.set (m.open_.length - 1) l', decide (la = 1)⟩ i = 0 := if_neg (fun h => hp h.1)
  rw [hpc]
  dsimp only at hi ⊢
  by_cases hil : i = m.open_.length - 1
  · subst hil
    rw [List.getElem?_set_self (by omega)] at hi
    injection hi with hi
    subst hi
    exact ⟨f', by rw [hd]; exact stack_new (by omega), hf⟩
  · rw [List.getElem?_set_ne (by omega)] at hi
    obtain ⟨f2, a, b⟩ := s.lev i l2 hi
    have h0 : pcS k m i = 0 := if_neg (fun h => hp h.1)
    rw [h0] at b
    exact ⟨f2, by rw [List.getElem?_set_ne (by omega)]; exact a, b⟩
/-- a level less -/
theorem sim_end (s : Sim k m k.last) (hp : ¬ k.inPara = 1) :
    Sim ⟨k.stack, k.depth - 1, k.inPara, k.marks, k.links, k.last, k.s, k.styles, k.topics⟩ ⟨m.para, m.braces, m.open_.take (m.open_.length - 1), decide (la = 1)⟩ la := by
  have hd := s.dep
  have hb0 := s.outb hp
  rw [if_neg hp, hb0] at hd
  simp at hd
  refine ⟨s.para, fun _ => hb0, by simp [hp, hb0, hd], by simp, s.marks, s.links, fun i l2 hi => ?_, fun i b hi => by dsimp only at hi; rw [hb0] at hi; simp at hi⟩
  have hpc : pcS ⟨k.stack, k.depth - 1, k.inPara, k.marks, k.links, k.last, k.s, k.styles, k.topics⟩ ⟨m.para, m.braces, m.open_.take (m.open_.length - 1), decide (la = 1)⟩ i = 0 := if_neg (fun h => hp h.1)
  rw [hpc]
  dsimp only at hi ⊢
  rw [List.getElem?_take] at hi
  split at hi
  · obtain ⟨f2, a, b⟩ := s.lev i l2 hi
    have h0 : pcS k m i = 0 := if_neg (fun h => hp h.1)
    rw [h0] at b
    exact ⟨f2, a, b⟩
  · cases hi
/-- a paragraph begins -/
theorem sim_para {f : FrameS} (ok : WOk k n) (s : Sim k m k.last) (hp : ¬ k.inPara = 1) (op' : List LevS) (hl : op'.length = m.open_.length)
    (ho : ∀ (i : Nat) l, op'[i]? = some l → ∃ f, k.stack[i]? = some f ∧ LevF (if i + 1 = m.open_.length then 1 else 0) f l) :
    Sim ⟨k.stack.set k.depth f, k.depth + 1, 1, k.marks, k.links, k.last, k.s, k.styles, k.topics⟩ ⟨true, m.braces, op', decide (la = 1)⟩ la := by
  have hd := s.dep
  have hb0 := s.outb hp
  rw [if_neg hp, hb0] at hd
  have hln := ok.len
  have hdl := ok.depth_le
  simp at hd
  refine ⟨by simp, fun h => absurd rfl h, by simp [hb0, hd, hl], by simp, s.marks, s.links, fun i l2 hi => ?_, fun i b hi => by dsimp only at hi; rw [hb0] at hi; simp at hi⟩
  have hilt : i < op'.length := (List.getElem?_eq_some_iff.1 hi).1
  obtain ⟨f2, a, b⟩ := ho i l2 hi
  have hpc : pcS ⟨k.stack.set k.depth f, k.depth + 1, 1, k.marks, k.links, k.last, k.s, k.styles, k.topics⟩ ⟨true, m.braces, op', decide (la = 1)⟩ i = if i + 1 = m.open_.length then 1 else 0 := by
    unfold pcS; simp [hl]
  rw [hpc]
  exact ⟨f2, by dsimp only; rw [stack_push (by omega)]; exact a, b⟩
theorem sim_outer (ok : WOk k n) (s : Sim k m k.last) (hp : ¬ k.inPara = 1) (hk : ¬ (kind ≤ 7 ∨ kind = 9)) (hk1 : kind ≤ 14) (hwl : 0 ≤ wl) :
    (outerS k kind wl).1 = (blockS m kind wl).1 ∧ ((outerS k kind wl).1 = true → Sim (outerS k kind wl).2 { (blockS m kind wl).2 with text := decide (kind = 1) } kind) := by
  have hpa : ¬ m.para = true := fun h => hp (s.para.1 h)
  have hd := s.dep
  have hb0 := s.outb hp
  rw [if_neg hp, hb0] at hd
  simp at hd
  have hot := ok.out hp
  have e : blockS m kind wl = blockS m kind wl := rfl
  conv at e =>
    rhs
    unfold blockS
    rw [if_neg hpa]
  rw [e]
  clear e
  unfold outerS
  by_cases ho : m.open_.length = 0
  · have hop : m.open_ = [] := List.length_eq_zero_iff.1 ho
    have htop : k.top = none := by rw [WalkS.top, if_pos (by omega)]
    have hmt : m.top = none := by rw [MachS.top, hop]; rfl
    rw [htop, hmt]
    dsimp only
    rw [if_neg (show ¬ kind = 15 by omega)]
    by_cases h8 : kind = 8
    · rw [if_pos h8, if_pos h8]
      exact ⟨rfl, fun _ => sim_para ok s hp m.open_ rfl (fun i l hi => by rw [hop] at hi; simp at hi)⟩
    · rw [if_neg h8, if_neg h8]
      by_cases h10 : kind = 10
      · rw [if_pos h10, if_pos h10]
        exact ⟨rfl, fun _ => sim_open ok s hp (.inl ⟨rfl, h10, rfl, Int.le_refl _⟩)⟩
      · rw [if_neg h10, if_neg h10]
        by_cases h12 : kind = 12
        · rw [if_pos h12, if_neg (show ¬ kind = 11 by omega), if_pos h12]
          exact ⟨rfl, fun _ => sim_open ok s hp (.inr ⟨rfl, h12, rfl, rfl, rfl, fun h => absurd h (show ¬ (0 : Int) < 0 by decide), Int.le_refl _, hwl⟩)⟩
        · rw [if_neg h12]
          by_cases h11 : kind = 11
          · rw [if_pos h11]; exact ⟨rfl, fun h => by cases h⟩
          · rw [if_neg h11, if_neg h12]
            by_cases h13 : kind = 13
            · rw [if_pos h13]; exact ⟨rfl, fun h => by cases h⟩
            · rw [if_neg h13, if_pos (show kind = 14 by omega)]
              exact ⟨rfl, fun h => by cases h⟩
  · obtain ⟨l, hl⟩ : ∃ l, m.open_[m.open_.length - 1]? = some l := ⟨_, List.getElem?_eq_getElem (by omega)⟩
    obtain ⟨f, hf, hlf⟩ := s.lev _ l hl
    have hpc : pcS k m (m.open_.length - 1) = 0 := if_neg (fun h => hp h.1)
    rw [hpc] at hlf
    have htop : k.top = some f := by rw [WalkS.top, if_neg (by omega), show k.depth - 1 = m.open_.length - 1 by omega]; exact hf
    have hmt : m.top = some l := hl
    rw [htop, hmt]
    dsimp only
    have other : ∀ (i : Nat) l, m.open_[i]? = some l → ∃ f, k.stack[i]? = some f ∧ LevF 0 f l := by
      intro i l2 hi
      obtain ⟨f2, a, b⟩ := s.lev i l2 hi
      have : pcS k m i = 0 := if_neg (fun h => hp h.1)
      rw [this] at b
      exact ⟨f2, a, b⟩
    have turned : ∀ l' : LevS, LevF 1 f l' → ∀ (i : Nat) l2, (m.open_.set (m.open_.length - 1) l')[i]? = some l2 → ∃ f, k.stack[i]? = some f ∧ LevF (if i + 1 = m.open_.length then 1 else 0) f l2 := by
      intro l' hl' i l2 hi
      by_cases hil : i = m.open_.length - 1
      · subst hil
        rw [List.getElem?_set_self (by omega)] at hi
        injection hi with hi
        subst hi
        exact ⟨f, hf, by rw [if_pos (by omega)]; exact hl'⟩
      · rw [List.getElem?_set_ne (by omega)] at hi
        rw [if_neg (by omega)]
        exact other i l2 hi
    rcases hlf with ⟨c1, c2, c3, c4⟩ | ⟨c1, c2, c3, c4, c5, c6, c7, c8⟩
    · -- a list
      by_cases h8 : kind = 8
      · rw [if_pos h8, if_pos h8]
        by_cases hi : 0 < f.items
        · rw [if_pos (.inl ⟨c2, hi⟩), if_neg (by rintro (⟨h, _⟩ | ⟨_, h⟩); rw [c1] at h; cases h; omega)]
          exact ⟨rfl, fun _ => sim_para ok s hp _ (by simp) (turned _ (.inl ⟨c1, c2, c3, c4⟩))⟩
        · rw [if_neg (by omega), if_pos (.inr ⟨c1, by omega⟩)]
          exact ⟨rfl, fun h => by cases h⟩
      · rw [if_neg h8, if_neg h8]
        by_cases h10 : kind = 10
        · rw [if_pos h10, if_pos h10]
          by_cases hi : 0 < f.items
          · by_cases h88 : m.open_.length < 8
            · rw [if_pos ⟨⟨c2, hi⟩, by omega⟩, if_neg (by rintro ((h | h) | h); rw [c1] at h; cases h; omega; omega)]
              exact ⟨rfl, fun _ => sim_open ok s hp (.inl ⟨rfl, h10, rfl, Int.le_refl _⟩)⟩
            · rw [if_neg (by omega), if_pos (.inr (by omega))]
              exact ⟨rfl, fun h => by cases h⟩
          · rw [if_neg (by omega), if_pos (.inl (.inr (by omega)))]
            exact ⟨rfl, fun h => by cases h⟩
        · rw [if_neg h10, if_neg h10]
          by_cases h11 : kind = 11
          · rw [if_pos h11, if_pos h11, if_pos c2, if_neg (by rw [c1]; decide)]
            exact ⟨rfl, fun _ => sim_turn ok s hp ho (.inl ⟨c1, c2, by dsimp only; omega, by dsimp only; omega⟩)⟩
          · rw [if_neg h11, if_neg h11]
            by_cases h12 : kind = 12
            · rw [if_neg (show ¬ kind = 13 by omega), if_neg (show ¬ kind = 14 by omega), if_pos h12]
              exact ⟨rfl, fun h => by cases h⟩
            · by_cases h13 : kind = 13
              · rw [if_pos h13, if_neg (by omega), if_neg h12, if_pos h13, if_pos (.inl c1)]
                exact ⟨rfl, fun h => by cases h⟩
              · rw [if_neg h13, if_pos (show kind = 14 by omega), if_neg (by omega), if_neg h12, if_neg h13, if_pos (show kind = 14 by omega), if_neg (by rintro ⟨h, _⟩; rw [c1] at h; cases h)]
                exact ⟨rfl, fun _ => sim_end s hp⟩
    · -- a table
      have hfull : fullS l = true ↔ ¬ (0 < f.rows ∧ f.cells < f.wide) := by
        unfold fullS
        rw [decide_eq_true_iff]
        constructor
        · intro h; omega
        · intro h; omega
      by_cases h8 : kind = 8
      · rw [if_pos h8, if_pos h8]
        by_cases hi : 0 < f.rows ∧ f.cells < f.wide
        · rw [if_pos (.inr ⟨c2, hi⟩), if_neg (by rintro (⟨_, h⟩ | ⟨h, _⟩); omega; rw [c1] at h; cases h)]
          exact ⟨rfl, fun _ => sim_para ok s hp _ (by simp) (turned _ (.inr ⟨c1, c2, c3, c4, by dsimp only; omega, fun _ => by dsimp only; omega, c7, c8⟩))⟩
        · rw [if_neg (by omega), if_pos (.inl ⟨c1, by omega⟩)]
          exact ⟨rfl, fun h => by cases h⟩
      · rw [if_neg h8, if_neg h8]
        by_cases h10 : kind = 10
        · rw [if_pos h10, if_pos h10, if_neg (by omega), if_pos (.inl (.inl c1))]
          exact ⟨rfl, fun h => by cases h⟩
        · rw [if_neg h10, if_neg h10]
          by_cases h11 : kind = 11
          · rw [if_pos h11, if_pos h11, if_neg (by omega), if_pos c1]
            exact ⟨rfl, fun h => by cases h⟩
          · rw [if_neg h11, if_neg h11]
            by_cases h12 : kind = 12
            · rw [if_neg (show ¬ kind = 13 by omega), if_neg (show ¬ kind = 14 by omega), if_pos h12]
              exact ⟨rfl, fun h => by cases h⟩
            · by_cases h13 : kind = 13
              · rw [if_pos h13]
                by_cases hi : 0 < f.rows ∧ f.cells < f.wide
                · have hfu : fullS l = false := by cases hx : fullS l with
                    | true => exact absurd hi (hfull.1 hx)
                    | false => rfl
                  rw [if_neg (fun h => h.2 hi), if_neg h12, if_pos h13, if_pos (.inr hfu)]
                  exact ⟨rfl, fun h => by cases h⟩
                · rw [if_pos ⟨c2, hi⟩, if_neg h12, if_pos h13, if_neg (by rintro (h | h); rw [c1] at h; cases h; rw [hfull.2 hi] at h; cases h)]
                  exact ⟨rfl, fun _ => sim_turn ok s hp ho (.inr ⟨c1, c2, by dsimp only; omega, c4, rfl, fun _ => by dsimp only; omega, by dsimp only; omega, c8⟩)⟩
              · rw [if_neg h13, if_pos (show kind = 14 by omega)]
                by_cases hi : 0 < f.rows ∧ f.cells < f.wide
                · have hfu : fullS l = false := by cases hx : fullS l with
                    | true => exact absurd hi (hfull.1 hx)
                    | false => rfl
                  rw [if_pos ⟨c2, hi⟩, if_neg h12, if_neg h13, if_pos (show kind = 14 by omega), if_pos ⟨c1, hfu⟩]
                  exact ⟨rfl, fun h => by cases h⟩
                · rw [if_neg (by omega), if_neg h12, if_neg h13, if_pos (show kind = 14 by omega), if_neg (by rintro ⟨_, h⟩; rw [hfull.2 hi] at h; cases h)]
                  exact ⟨rfl, fun _ => sim_end s hp⟩

theorem inner_no (h : ¬ (kind ≤ 7 ∨ kind = 9)) : innerS k kind = (false, k) := by
  unfold innerS
  rw [if_neg (by omega), if_neg (by omega), if_neg (by omega), if_neg (by omega), if_neg (by omega), if_neg (by omega)]
theorem outer_no (h : kind ≤ 7 ∨ kind = 9) : outerS k kind wl = (false, k) := by
  unfold outerS
  split
  · rw [if_neg (by omega), if_neg (by omega), if_neg (by omega), if_neg (by omega)]
  · rw [if_neg (by omega), if_neg (by omega), if_neg (by omega), if_neg (by omega), if_neg (by omega)]
theorem sim_place (ok : WOk k n) (s : Sim k m k.last) (h1 : 1 ≤ kind) (h15 : kind ≤ 15) (hwl : 0 ≤ wl) :
    (placeS k kind wl).1 = (if kind = 15 then m.done else (machStep m kind wl).1) ∧ ((placeS k kind wl).1 = true → Sim (placeS k kind wl).2 (if kind = 15 then m else (machStep m kind wl).2) kind) := by
  by_cases h : kind = 15
  · rw [if_pos h, if_pos h]
    unfold placeS
    by_cases hp : k.inPara = 1
    · rw [if_pos hp, inner_no (by omega)]
      have hpa : m.para = true := s.para.2 hp
      refine ⟨?_, fun h => by cases h⟩
      unfold MachS.done
      rw [hpa]; rfl
    · rw [if_neg hp]
      have hpa : m.para = false := by cases hx : m.para with
        | true => exact absurd (s.para.1 hx) hp
        | false => rfl
      have hd := s.dep
      rw [if_neg hp, s.outb hp] at hd
      simp at hd
      unfold outerS MachS.done
      rw [hpa]
      by_cases ho : m.open_.length = 0
      · have hop : m.open_ = [] := List.length_eq_zero_iff.1 ho
        rw [show k.top = none by rw [WalkS.top, if_pos (by omega)]]
        dsimp only
        rw [if_pos h, hop]
        refine ⟨rfl, fun _ => ⟨s.para, s.outb, s.dep, fun hh => absurd hh hp, s.marks, s.links, s.lev, s.bf⟩⟩
      · obtain ⟨f, hf⟩ : ∃ f, k.top = some f := by
          refine ⟨_, (by rw [WalkS.top, if_neg (by omega)]; exact List.getElem?_eq_getElem (by have := ok.len; have := ok.depth_le; omega))⟩
        rw [hf]
        dsimp only
        rw [if_neg (by omega), if_neg (by omega), if_neg (by omega), if_neg (by omega), if_neg (by omega)]
        refine ⟨?_, fun h => by cases h⟩
        cases hx : m.open_ with
        | nil => rw [hx] at ho; exact absurd rfl ho
        | cons a r => rfl
  · rw [if_neg h, if_neg h]
    unfold placeS
    have hm : machStep m kind wl = ((if kind ≤ 7 ∨ kind = 9 then inlineS m kind else blockS m kind wl).1, { (if kind ≤ 7 ∨ kind = 9 then inlineS m kind else blockS m kind wl).2 with text := decide (kind = 1) }) := rfl
    rw [hm]
    by_cases hp : k.inPara = 1
    · rw [if_pos hp]
      by_cases hk : kind ≤ 7 ∨ kind = 9
      · rw [if_pos hk]; exact sim_inner ok s hp hk h1
      · rw [if_neg hk, inner_no hk]
        have hpa : m.para = true := s.para.2 hp
        refine ⟨?_, fun h => by cases h⟩
        unfold blockS
        rw [if_pos hpa]
    · rw [if_neg hp]
      by_cases hk : kind ≤ 7 ∨ kind = 9
      · rw [if_pos hk, outer_no hk]
        have hpa : m.para = false := by cases hx : m.para with
          | true => exact absurd (s.para.1 hx) hp
          | false => rfl
        refine ⟨?_, fun h => by cases h⟩
        unfold inlineS
        rw [if_pos hpa]
      · rw [if_neg hk]; exact sim_outer ok s hp hk (by omega) hwl
theorem sim_deep (s : Sim k m la) : MachS.deep m = (k.depth : Int) := by
  rw [s.dep]
  unfold MachS.deep
  by_cases hp : k.inPara = 1
  · rw [if_pos hp, if_pos (s.para.2 hp)]; omega
  · rw [if_neg hp, if_neg (fun h => hp (s.para.1 h))]; omega
def LvB (m : MachS) (n : Int) : Prop := ∀ l ∈ m.open_, 0 ≤ l.items ∧ l.items ≤ n ∧ 0 ≤ l.rows ∧ l.rows ≤ n ∧ 0 ≤ l.cells ∧ l.cells ≤ n
theorem lvb_set {op : List LevS} {i : Nat} {l' : LevS} {n : Int} (h : ∀ l ∈ op, 0 ≤ l.items ∧ l.items ≤ n ∧ 0 ≤ l.rows ∧ l.rows ≤ n ∧ 0 ≤ l.cells ∧ l.cells ≤ n)
    (h' : 0 ≤ l'.items ∧ l'.items ≤ n + 1 ∧ 0 ≤ l'.rows ∧ l'.rows ≤ n + 1 ∧ 0 ≤ l'.cells ∧ l'.cells ≤ n + 1) : ∀ l ∈ op.set i l', 0 ≤ l.items ∧ l.items ≤ n + 1 ∧ 0 ≤ l.rows ∧ l.rows ≤ n + 1 ∧ 0 ≤ l.cells ∧ l.cells ≤ n + 1 := by
  intro l hl
  rcases List.mem_or_eq_of_mem_set hl with h1 | rfl
  · have := h l h1; omega
  · exact h'
theorem lvb_step {x : Int} (hx : 0 ≤ x) (h : LvB m x) : LvB (machStep m kind wl).2 (x + 1) := by
  have h0 : ∀ l ∈ m.open_, 0 ≤ l.items ∧ l.items ≤ x + 1 ∧ 0 ≤ l.rows ∧ l.rows ≤ x + 1 ∧ 0 ≤ l.cells ∧ l.cells ≤ x + 1 := fun l hl => by have := h l hl; omega
  have happ : ∀ l' : LevS, l'.items = 0 → l'.rows = 0 → l'.cells = 0 → ∀ l ∈ m.open_ ++ [l'], 0 ≤ l.items ∧ l.items ≤ x + 1 ∧ 0 ≤ l.rows ∧ l.rows ≤ x + 1 ∧ 0 ≤ l.cells ∧ l.cells ≤ x + 1 := fun l' a1 a2 a3 l hl => by
    rcases List.mem_append.1 hl with hl | hl
    · exact h0 l hl
    · rw [List.mem_singleton.1 hl, a1, a2, a3]; omega
  have htop : ∀ l, m.top = some l → 0 ≤ l.items ∧ l.items ≤ x ∧ 0 ≤ l.rows ∧ l.rows ≤ x ∧ 0 ≤ l.cells ∧ l.cells ≤ x := fun l hl => h l (List.mem_of_getElem? hl)
  unfold LvB machStep
  dsimp only
  by_cases hk : kind ≤ 7 ∨ kind = 9
  · rw [if_pos hk]
    have : (inlineS m kind).2.open_ = m.open_ := by
      unfold inlineS
      repeat' split
      all_goals rfl
    rw [this]; exact h0
  · rw [if_neg hk]
    unfold blockS
    cases ht : m.top with
    | none =>
      dsimp only
      repeat' split
      all_goals first | exact h0 | exact happ _ rfl rfl rfl
    | some l =>
      have hb := htop l ht
      dsimp only
      repeat' split
      all_goals first
        | exact h0
        | exact happ _ rfl rfl rfl
        | exact lvb_set h (by dsimp only; omega)
        | (intro l2 hl2; exact h0 l2 (List.mem_of_mem_take hl2))
/-- one step of the look -/
theorem look_170 {i : InstrS} (h4 : operandS i.kind i.n i.widths k.styles k.topics = true) (hp : (placeS k i.kind i.widths.length).1 = false) : (stepS k i).1 = 170 := by
  rw [stepS, if_neg (by rw [h4]; decide), if_pos hp]
theorem look_171 {i : InstrS} (h4 : operandS i.kind i.n i.widths k.styles k.topics = true) (hp : (placeS k i.kind i.widths.length).1 = true) (ht : (textsS (placeS k i.kind i.widths.length).2 i.kind i.n).1 = false) : (stepS k i).1 = 171 := by
  rw [stepS, if_neg (by rw [h4]; decide), if_neg (by rw [hp]; decide), if_pos ht]
theorem look_0 {i : InstrS} (h4 : operandS i.kind i.n i.widths k.styles k.topics = true) (hp : (placeS k i.kind i.widths.length).1 = true) (ht : (textsS (placeS k i.kind i.widths.length).2 i.kind i.n).1 = true) :
    stepS k i = (0, { (textsS (placeS k i.kind i.widths.length).2 i.kind i.n).2 with last := i.kind }) := by
  rw [stepS, if_neg (by rw [h4]; decide), if_neg (by rw [hp]; decide), if_neg (by rw [ht]; decide)]
theorem sim_texts {i : InstrS} {m' : MachS} {x : Int} (s : Sim k m' x) (hx : x = i.kind) : Sim { (textsS k i.kind i.n).2 with last := i.kind } m' i.kind := by
  subst hx
  have h : (textsS k i.kind i.n).2 = k ∨ (textsS k i.kind i.n).2 = { k with s := k.s.drop i.n.toNat } := by
    unfold textsS
    repeat' split
    all_goals first | exact .inl rfl | exact .inr rfl
  rcases h with h | h
  · rw [h]; exact ⟨s.para, s.outb, s.dep, s.text, s.marks, s.links, s.lev, s.bf⟩
  · rw [h]; exact ⟨s.para, s.outb, s.dep, s.text, s.marks, s.links, s.lev, s.bf⟩
theorem sim_0 {s : List UInt8} {sty tp : Int} : Sim (walk0 s sty tp) ⟨false, [], [], false⟩ 0 :=
  ⟨by simp [walk0], fun _ => rfl, by simp [walk0], fun h => absurd h (by simp [walk0]), by simp [walk0], by simp [walk0], fun i l h => by simp at h, fun i b h => by simp at h⟩

theorem place_keep : (placeS k kind wl).2.s = k.s ∧ (placeS k kind wl).2.styles = k.styles ∧ (placeS k kind wl).2.topics = k.topics := by
  unfold placeS
  split
  · unfold innerS
    repeat' split
    all_goals exact ⟨rfl, rfl, rfl⟩
  · unfold outerS
    repeat' split
    all_goals exact ⟨rfl, rfl, rfl⟩
theorem texts_keep {i : InstrS} : (textsS k i.kind i.n).2.styles = k.styles ∧ (textsS k i.kind i.n).2.topics = k.topics := by
  unfold textsS
  repeat' split
  all_goals exact ⟨rfl, rfl⟩
theorem step_keep {i : InstrS} (h : stepS k i = (0, { (textsS (placeS k i.kind i.widths.length).2 i.kind i.n).2 with last := i.kind })) : (stepS k i).2.styles = k.styles ∧ (stepS k i).2.topics = k.topics := by
  rw [h]
  have h1 := texts_keep (k := (placeS k i.kind i.widths.length).2) (i := i)
  have h2 := place_keep (k := k) (kind := i.kind) (wl := i.widths.length)
  exact ⟨h1.1.trans h2.2.1, h1.2.trans h2.2.2⟩
theorem texts_1 {n : Int} (h : kind = 1) (hn : ¬ (k.s.length : Int) < n) : textsS k kind n = ((plainS (k.s.take n.toNat)).2, { k with s := k.s.drop n.toNat }) := by rw [textsS, if_neg (by omega), if_pos h, if_neg hn]
theorem texts_1x {n : Int} (h : kind = 1) (hn : (k.s.length : Int) < n) : textsS k kind n = (false, k) := by rw [textsS, if_neg (by omega), if_pos h, if_pos hn]
theorem texts_15 {n : Int} (h : kind = 15) : textsS k kind n = (decide (k.s = []), k) := by rw [textsS, if_pos h]
theorem texts_no {n : Int} (h : ¬ kind = 1) (h2 : ¬ kind = 15) : textsS k kind n = (true, k) := by rw [textsS, if_neg h2, if_neg h]
theorem last_15 {b : List UInt8} (h : (instrsS b).2.2 = 0) {j : Nat} {i : InstrS} (hj : (instrsS b).1[j]? = some i) (hl : j + 1 = (instrsS b).1.length) : i.kind = 15 := by
  obtain ⟨a, i', h1, h2⟩ := instrs_last h
  rw [h1] at hj hl
  have : j = a.length := by simpa using hl
  subst this
  simp at hj
  rw [← hj]; exact h2
theorem first_15 {b : List UInt8} (h : (instrsS b).2.2 = 0) : (instrsS b).1.length ≠ 0 := by
  obtain ⟨a, i', h1, h2⟩ := instrs_last h
  rw [h1]; simp
end

end Go.Proofs.YtpaecijilnfkhaaDoor
