import Derived.WalkKit
import Derived.WalkSpells
import Derived.WalkLawsBesides
import Derived.StillTail
import Derived.Laws.CopyRow
import Derived.Laws.CopyOwn
import Derived.Maps.AppendAt
import Derived.Laws.MakeOwn
import Derived.Laws.RangeAny
import Derived.Shelf.Unicode.DecodeAny
/-
  The engine: a walk over the model's code with a pruned list of slots and a small description of the heap.
  Nothing here names a program: all is over any 'P'.
-/
namespace Go.Eng
open Go Go.RowKit

abbrev Env := List (Nat × Value)

inductive Look : Env → Nat → Value → Prop
  | here {k : Nat} {v : Value} {r : Env} : Look ((k, v) :: r) k v
  | there {x : Nat × Value} {k : Nat} {v : Value} {r : Env} : Look r k v → Look (x :: r) k v

theorem Look.mem {e : Env} {k : Nat} {v : Value} (h : Look e k v) : (k, v) ∈ e := by
  induction h with
  | here => exact List.mem_cons_self
  | there _ ih => exact List.mem_cons_of_mem _ ih

inductive EV : Env → Operand → Value → Prop
  | t {e : Env} {k : Nat} {v : Value} : Look e k v → EV e (.tmp k) v
  | c {e : Env} {v : Value} : EV e (.const v) v
  | g {e : Env} {n : Nat} : EV e (.global n) (.pointer (some ⟨n, 0, none⟩))
  | f {e : Env} {n : Nat} : EV e (.func n) (.func (.func n) #[] #[])

inductive EVA : Env → List Operand → List Value → Prop
  | nil {e : Env} : EVA e [] []
  | cons {e : Env} {x : Operand} {v : Value} {xs : List Operand} {vs : List Value} : EV e x v → EVA e xs vs → EVA e (x :: xs) (v :: vs)

/-- What is known of a frame. -/
structure Fr (a : Act) (N : Nat) (e : Env) : Prop where
  size : a.tmps.size = N
  defers : a.defers = []
  val : ∀ p ∈ e, a.tmps.getD p.1 undef = p.2
  nd : (e.map (·.1)).Nodup

theorem Fr.look {a : Act} {N : Nat} {e : Env} (h : Fr a N e) {k : Nat} {v : Value} (hl : Look e k v) : a.tmps.getD k undef = v := h.val _ hl.mem

theorem Fr.ev {a : Act} {N : Nat} {e : Env} (h : Fr a N e) {x : Operand} {v : Value} (hx : EV e x v) : a.eval x = v := by
  cases hx with
  | t hl => exact h.look hl
  | c => rfl
  | g => rfl
  | f => rfl

theorem Fr.eva {a : Act} {N : Nat} {e : Env} (h : Fr a N e) {xs : List Operand} {vs : List Value} (hx : EVA e xs vs) : xs.map a.eval = vs := by
  induction hx with
  | nil => rfl
  | cons hv _ ih => simp [h.ev hv, ih]

def fresh (N : Nat) (e : Env) (d : Nat) : Bool := Nat.blt d N && e.all fun p => !Nat.beq p.1 d

theorem fresh_lt {N : Nat} {e : Env} {d : Nat} (h : fresh N e d = true) : d < N := by
  simp only [fresh, Bool.and_eq_true] at h
  simpa [Nat.blt_eq] using h.1
theorem fresh_not {N : Nat} {e : Env} {d : Nat} (h : fresh N e d = true) : d ∉ e.map (·.1) := by
  simp only [fresh, Bool.and_eq_true, List.all_eq_true] at h
  intro hm
  obtain ⟨p, hp, rfl⟩ := List.mem_map.1 hm
  have := h.2 p hp
  simp at this

theorem Fr.put {a : Act} {N : Nat} {e : Env} (h : Fr a N e) {d : Nat} {v : Value} (hf : fresh N e d = true) : Fr (a.put (some d) v) N ((d, v) :: e) := by
  have hlt := fresh_lt hf
  have hn := fresh_not hf
  refine ⟨by simp [Act.put, h.size], h.defers, ?_, ?_⟩
  · intro p hp
    rcases List.mem_cons.1 hp with rfl | hp
    · have : d < a.tmps.size := by rw [h.size]; exact hlt
      simp [Act.put, this]
    · have hne : d ≠ p.1 := fun e' => hn (e' ▸ List.mem_map.2 ⟨p, hp, rfl⟩)
      have := h.val p hp
      simp only [Act.put, Array.getD_eq_getD_getElem?] at this ⊢
      rw [Array.getElem?_setIfInBounds_ne hne]
      exact this
  · simp only [List.map_cons, List.nodup_cons]
    exact ⟨hn, h.nd⟩

theorem Fr.put_none {a : Act} {N : Nat} {e : Env} (h : Fr a N e) {v : Value} : Fr (a.put none v) N e := h

/-- A slot that is in the list gets another value. -/
inductive Upd : Env → Nat → Value → Env → Prop
  | here {d : Nat} {u v : Value} {r : Env} : Upd ((d, u) :: r) d v ((d, v) :: r)
  | there {x : Nat × Value} {d : Nat} {v : Value} {r r' : Env} : Upd r d v r' → Upd (x :: r) d v (x :: r')

theorem Upd.keys {e e' : Env} {d : Nat} {v : Value} (h : Upd e d v e') : e'.map (·.1) = e.map (·.1) := by
  induction h with
  | here => rfl
  | there _ ih => simp [ih]
theorem Upd.mem_key {e e' : Env} {d : Nat} {v : Value} (h : Upd e d v e') : d ∈ e.map (·.1) := by
  induction h with
  | here => simp
  | there _ ih => exact List.mem_cons_of_mem _ ih
theorem Upd.spec {e e' : Env} {d : Nat} {v : Value} (h : Upd e d v e') (hn : (e.map (·.1)).Nodup) : ∀ p ∈ e', p = (d, v) ∨ (p ∈ e ∧ p.1 ≠ d) := by
  induction h with
  | @here d u v r =>
    intro p hp
    simp only [List.map_cons, List.nodup_cons] at hn
    rcases List.mem_cons.1 hp with rfl | hp
    · exact .inl rfl
    · exact .inr ⟨List.mem_cons_of_mem _ hp, fun e' => hn.1 (e' ▸ List.mem_map.2 ⟨p, hp, rfl⟩)⟩
  | @there x d v r r' hu ih =>
    intro p hp
    simp only [List.map_cons, List.nodup_cons] at hn
    rcases List.mem_cons.1 hp with rfl | hp
    · exact .inr ⟨List.mem_cons_self, fun e' => hn.1 (e' ▸ hu.mem_key)⟩
    · rcases ih hn.2 p hp with h1 | h1
      · exact .inl h1
      · exact .inr ⟨List.mem_cons_of_mem _ h1.1, h1.2⟩

def inN (N d : Nat) : Bool := Nat.blt d N

theorem Fr.upd {a : Act} {N : Nat} {e e' : Env} (h : Fr a N e) {d : Nat} {v : Value} (hu : Upd e d v e') (hN : inN N d = true) : Fr (a.put (some d) v) N e' := by
  have hlt : d < a.tmps.size := by rw [h.size]; simpa [inN, Nat.blt_eq] using hN
  refine ⟨by simp [Act.put, h.size], h.defers, ?_, by rw [hu.keys]; exact h.nd⟩
  intro p hp
  rcases hu.spec h.nd p hp with rfl | ⟨h1, h2⟩
  · simp [Act.put, hlt]
  · have := h.val p h1
    simp only [Act.put, Array.getD_eq_getD_getElem?] at this ⊢
    rw [Array.getElem?_setIfInBounds_ne (Ne.symm h2)]
    exact this

/-- A part of a list of slots, each value replaced by one that it is equal to. -/
inductive Sb : Env → Env → Prop
  | nil : Sb [] []
  | kp {k : Nat} {v v' : Value} {r r' : Env} : v = v' → Sb r r' → Sb ((k, v) :: r) ((k, v') :: r')
  | dr {x : Nat × Value} {r r' : Env} : Sb r r' → Sb (x :: r) r'

theorem Sb.mem {e e' : Env} (h : Sb e e') : ∀ p ∈ e', p ∈ e := by
  induction h with
  | nil => simp
  | kp hv _ ih =>
    subst hv
    intro p hp
    rcases List.mem_cons.1 hp with rfl | hp
    · exact List.mem_cons_self
    · exact List.mem_cons_of_mem _ (ih p hp)
  | dr _ ih => exact fun p hp => List.mem_cons_of_mem _ (ih p hp)
theorem Sb.nd {e e' : Env} (h : Sb e e') (hn : (e.map (·.1)).Nodup) : (e'.map (·.1)).Nodup := by
  induction h with
  | nil => exact hn
  | @kp k v v' r r' hv hs ih =>
    simp only [List.map_cons, List.nodup_cons] at hn ⊢
    refine ⟨fun hm => hn.1 ?_, ih hn.2⟩
    obtain ⟨p, hp, hpk⟩ := List.mem_map.1 hm
    exact List.mem_map.2 ⟨p, hs.mem p hp, hpk⟩
  | dr _ ih =>
    simp only [List.map_cons, List.nodup_cons] at hn
    exact ih hn.2
theorem Fr.sb {a : Act} {N : Nat} {e e' : Env} (h : Fr a N e) (hs : Sb e e') : Fr a N e' :=
  ⟨h.size, h.defers, fun p hp => h.val p (hs.mem p hp), hs.nd h.nd⟩
theorem Fr.dr {a : Act} {N : Nat} {x : Nat × Value} {e : Env} (h : Fr a N (x :: e)) : Fr a N e :=
  ⟨h.size, h.defers, fun p hp => h.val p (List.mem_cons_of_mem _ hp), (List.nodup_cons.1 (by simpa using h.nd)).2⟩

/-! ### The heap -/

inductive Chunk where
  | obj (g : Nat) (o : Obj)
  | row (v : Value) (t size n : Nat) (xs : List Value)

def Chunk.blk : Chunk → Option Nat
  | .obj g _ => some g
  | .row v _ _ _ _ => v.ownBlock

def Chunk.holds (w : World) : Chunk → Prop
  | .obj g o => w.heap[g]? = some o
  | .row v t size n xs => w.ownsRow 0 t size v n xs

theorem Chunk.keep {w w' : World} {c : Chunk} (h : c.holds w) (hk : ∀ g, c.blk = some g → w'.heap[g]? = w.heap[g]?) : c.holds w' := by
  cases c with
  | obj g o => exact (hk g rfl).trans h
  | row v t size n xs =>
    obtain ⟨h1, h2⟩ := h
    refine ⟨h1, ?_⟩
    rcases h2 with h2 | ⟨g, cap, cur, hv, hg, hh, r⟩
    · exact .inl h2
    · exact .inr ⟨g, cap, cur, hv, hg, (hk g (by subst hv; rfl)).trans hh, r⟩

theorem Chunk.lt {w : World} {c : Chunk} (h : c.holds w) {g : Nat} (hg : c.blk = some g) : g < w.heap.size := by
  cases c with
  | obj g' o =>
    simp only [Chunk.blk, Option.some.injEq] at hg
    subst hg
    exact (Array.getElem?_eq_some_iff.1 h).1
  | row v t size n xs => exact (World.ownsRow.lt h g hg).2

def free (hs : List Chunk) (k : Nat) : Prop := ∀ c ∈ hs, c.blk ≠ some k

/-- What a call begins with: its world, the old blocks that it may turn, the old blocks that somebody else may turn later (no lasting fact may lean on them). -/
structure Cx where
  w0 : World
  mods : List Nat
  av : Nat → Prop

/-- From w to w' nothing has turned but the listed blocks, those of 'av', and what is new. -/
structure Ext (av : Nat → Prop) (hs : List Chunk) (w w' : World) : Prop where
  os : w'.os = w.os
  tape : w'.tape = w.tape
  output : w'.output = w.output
  size : w.heap.size ≤ w'.heap.size
  block : ∀ k, k < w.heap.size → ¬ av k → free hs k → w'.heap[k]? = w.heap[k]?

theorem Ext.refl (av : Nat → Prop) (hs : List Chunk) (w : World) : Ext av hs w w := ⟨rfl, rfl, rfl, Nat.le_refl _, fun _ _ _ _ => rfl⟩

def Box (av : Nat → Prop) (hs : List Chunk) (w : World) (I : World → Prop) : Prop := ∀ w', Ext av hs w w' → I w'

section
variable {av av' : Nat → Prop} {hs hs' : List Chunk} {w w' : World} {I J : World → Prop}
theorem Box.get (h : Box av hs w I) : I w := h w (Ext.refl _ _ _)
theorem Box.imp (h : Box av hs w I) (hj : ∀ w, I w → J w) : Box av hs w J := fun w' hx => hj _ (h w' hx)
theorem Box.and (h : Box av hs w I) (hj : Box av hs w J) : Box av hs w (fun w => I w ∧ J w) := fun w' hx => ⟨h w' hx, hj w' hx⟩
theorem Box.pure {p : Prop} (hp : p) : Box av hs w (fun _ => p) := fun _ _ => hp
theorem Ext.sub (h : Ext av hs w w') (hb : ∀ k, k < w.heap.size → ¬ av' k → free hs' k → ¬ av k ∧ free hs k) : Ext av' hs' w w' :=
  ⟨h.os, h.tape, h.output, h.size, fun k hk ha hf => h.block k hk (hb k hk ha hf).1 (hb k hk ha hf).2⟩
theorem Box.sub (h : Box av hs w I) (hb : ∀ k, k < w.heap.size → ¬ av k → free hs k → ¬ av' k ∧ free hs' k) : Box av' hs' w I :=
  fun w' hx => h w' (hx.sub hb)
end

def Apart (hs : List Chunk) : Prop := hs.Pairwise fun c d => ∀ g, c.blk = some g → d.blk ≠ some g

structure Hp (C : Cx) (w : World) (hs : List Chunk) : Prop where
  os : w.os = C.w0.os
  tape : w.tape = C.w0.tape
  output : w.output = C.w0.output
  size : C.w0.heap.size ≤ w.heap.size
  keep : ∀ k, k < C.w0.heap.size → k ∉ C.mods → w.heap[k]? = C.w0.heap[k]?
  hold : ∀ c ∈ hs, c.holds w
  own : ∀ c ∈ hs, ∀ g, c.blk = some g → g ∈ C.mods ∨ C.w0.heap.size ≤ g
  apart : Apart hs
  av : ∀ k, C.av k → k < C.w0.heap.size ∧ k ∉ C.mods

structure Hb (C : Cx) (w : World) (hs : List Chunk) (I : World → Prop) : Prop where
  hp : Hp C w hs
  box : Box C.av hs w I

section
variable {C : Cx} {w w' : World} {hs hs' : List Chunk} {I J : World → Prop}

theorem Hb.get (h : Hb C w hs I) : I w := h.box.get

/-- The step: what turned is among the listed blocks; the new list's blocks are the old list's, or new. -/
theorem Hb.step (h : Hb C w hs I) (x : Ext (fun _ => False) hs w w') (hold : ∀ c ∈ hs', c.holds w')
    (own : ∀ c ∈ hs', ∀ g, c.blk = some g → (∃ d ∈ hs, d.blk = some g) ∨ w.heap.size ≤ g)
    (ap : Apart hs') : Hb C w' hs' I := by
  refine ⟨⟨x.os.trans h.hp.os, x.tape.trans h.hp.tape, x.output.trans h.hp.output, Nat.le_trans h.hp.size x.size, ?_, hold, ?_, ap, h.hp.av⟩, ?_⟩
  · intro k hk hm
    rw [x.block k (Nat.lt_of_lt_of_le hk h.hp.size) (fun h => h) ?_]
    · exact h.hp.keep k hk hm
    · intro c hc hck
      rcases h.hp.own c hc k hck with h1 | h1
      · exact hm h1
      · omega
  · intro c hc g hg
    rcases own c hc g hg with ⟨d, hd, hdg⟩ | h1
    · exact h.hp.own d hd g hdg
    · exact .inr (Nat.le_trans h.hp.size h1)
  · intro w2 x2
    refine h.box w2 ⟨x2.os.trans x.os, x2.tape.trans x.tape, x2.output.trans x.output, Nat.le_trans x.size x2.size, fun k hk ha hf => ?_⟩
    rw [x2.block k (Nat.lt_of_lt_of_le hk x.size) ha ?_]
    · exact x.block k hk (fun h => h) hf
    · intro c hc hck
      rcases own c hc k hck with ⟨d, hd, hdg⟩ | h1
      · exact hf d hd hdg
      · omega

/-- The heap is the same: a draw. -/
theorem Hb.same (h : Hb C w hs I) (h1 : w'.os = w.os) (h2 : w'.tape = w.tape) (h3 : w'.output = w.output) (h4 : w'.heap = w.heap) : Hb C w' hs I :=
  h.step ⟨h1, h2, h3, by rw [h4]; exact Nat.le_refl _, fun _ _ _ _ => by rw [h4]⟩
    (fun c hc => Chunk.keep (h.hp.hold c hc) fun g _ => by rw [h4])
    (fun c hc g hg => .inl ⟨c, hc, hg⟩) h.hp.apart

theorem Hb.drew (h : Hb C w hs I) : Hb C w.drew hs I := h.same rfl rfl rfl rfl

/-- More, and nothing of the old has turned. -/
theorem Hb.grow (h : Hb C w hs I) (x : Ext (fun _ => False) [] w w') : Hb C w' hs I :=
  h.step (x.sub fun _ _ h _ => ⟨h, fun c hc => absurd hc (by simp)⟩)
    (fun c hc => Chunk.keep (h.hp.hold c hc) fun g hg => x.block g (Chunk.lt (h.hp.hold c hc) hg) (fun h => h) (fun _ hc => absurd hc (by simp)))
    (fun c hc g hg => .inl ⟨c, hc, hg⟩) h.hp.apart

theorem Hb.alloc (h : Hb C w hs I) (o : Obj) : Hb C (w.alloc o) (.obj w.heap.size o :: hs) I := by
  have hkeep : ∀ k, k < w.heap.size → (w.alloc o).heap[k]? = w.heap[k]? := fun k hk => Below.heap_alloc w o k hk
  refine h.step ⟨rfl, rfl, rfl, by simp, fun k hk _ _ => hkeep k hk⟩ ?_ ?_ ?_
  · intro c hc
    rcases List.mem_cons.1 hc with rfl | hc
    · exact heap_alloc_new w o
    · exact Chunk.keep (h.hp.hold c hc) fun g hg => hkeep g (Chunk.lt (h.hp.hold c hc) hg)
  · intro c hc g hg
    rcases List.mem_cons.1 hc with rfl | hc
    · simp only [Chunk.blk, Option.some.injEq] at hg
      exact .inr (by omega)
    · exact .inl ⟨c, hc, hg⟩
  · refine List.pairwise_cons.2 ⟨fun d hd g hg hdg => ?_, h.hp.apart⟩
    simp only [Chunk.blk, Option.some.injEq] at hg
    have := Chunk.lt (h.hp.hold d hd) hdg
    omega

/-- One of the list is replaced by another. -/
inductive Cup : List Chunk → Chunk → Chunk → List Chunk → Prop
  | here {c c' : Chunk} {r : List Chunk} : Cup (c :: r) c c' (c' :: r)
  | there {x c c' : Chunk} {r r' : List Chunk} : Cup r c c' r' → Cup (x :: r) c c' (x :: r')

theorem Cup.mem {c c' : Chunk} (h : Cup hs c c' hs') : c ∈ hs := by
  induction h with
  | here => exact List.mem_cons_self
  | there _ ih => exact List.mem_cons_of_mem _ ih
theorem Cup.mem' {c c' : Chunk} (h : Cup hs c c' hs') : ∀ d ∈ hs', d = c' ∨ d ∈ hs := by
  induction h with
  | here => intro d hd; rcases List.mem_cons.1 hd with rfl | hd; exact .inl rfl; exact .inr (List.mem_cons_of_mem _ hd)
  | there _ ih =>
    intro d hd
    rcases List.mem_cons.1 hd with rfl | hd
    · exact .inr List.mem_cons_self
    · rcases ih d hd with h1 | h1
      · exact .inl h1
      · exact .inr (List.mem_cons_of_mem _ h1)
/-- Each of the new list is the new one, or an old one apart from the one that went. -/
theorem Cup.spec {c c' : Chunk} (h : Cup hs c c' hs') (ap : Apart hs) :
    ∀ d ∈ hs', d = c' ∨ (d ∈ hs ∧ ∀ g, c.blk = some g → d.blk ≠ some g) := by
  induction h with
  | here =>
    intro d hd
    rcases List.mem_cons.1 hd with rfl | hd
    · exact .inl rfl
    · exact .inr ⟨List.mem_cons_of_mem _ hd, (List.pairwise_cons.1 ap).1 d hd⟩
  | there hc ih =>
    intro d hd
    rcases List.mem_cons.1 hd with rfl | hd
    · exact .inr ⟨List.mem_cons_self, fun g hg hdg => (List.pairwise_cons.1 ap).1 _ hc.mem g hdg hg⟩
    · rcases ih (List.pairwise_cons.1 ap).2 d hd with h1 | h1
      · exact .inl h1
      · exact .inr ⟨List.mem_cons_of_mem _ h1.1, h1.2⟩
theorem Cup.apart {c c' : Chunk} (h : Cup hs c c' hs') (ap : Apart hs)
    (hb : ∀ g, c'.blk = some g → c.blk = some g ∨ ∀ d ∈ hs, d.blk ≠ some g) : Apart hs' := by
  induction h with
  | here =>
    obtain ⟨h1, h2⟩ := List.pairwise_cons.1 ap
    refine List.pairwise_cons.2 ⟨fun d hd g hg => ?_, h2⟩
    rcases hb g hg with h3 | h3
    · exact h1 d hd g h3
    · exact h3 d (List.mem_cons_of_mem _ hd)
  | there hc ih =>
    obtain ⟨h1, h2⟩ := List.pairwise_cons.1 ap
    refine List.pairwise_cons.2 ⟨fun d hd g hg hdg => ?_, ih h2 fun g hg => (hb g hg).imp id fun h3 d hd => h3 d (List.mem_cons_of_mem _ hd)⟩
    rcases hc.mem' d hd with rfl | h3
    · rcases hb g hdg with h3 | h3
      · exact h1 _ hc.mem g hg h3
      · exact h3 _ List.mem_cons_self hg
    · exact h1 d h3 g hg hdg

/-- One listed block turned: it now reads as another chunk of the same block, or of a new one. -/
theorem Hb.turn {c c' : Chunk} (h : Hb C w hs I) (hc : Cup hs c c' hs') (x : Ext (fun _ => False) [c] w w') (hh : c'.holds w')
    (hb : ∀ g, c'.blk = some g → c.blk = some g ∨ w.heap.size ≤ g) : Hb C w' hs' I := by
  refine h.step (x.sub fun k _ h1 hf => ⟨h1, fun d hd => by
    have : d = c := by simpa using hd
    subst this
    exact hf _ hc.mem⟩) ?_ ?_ (hc.apart h.hp.apart fun g hg => (hb g hg).imp id fun h1 d hd hdg => by
      have := Chunk.lt (h.hp.hold d hd) hdg
      omega)
  · intro d hd
    rcases hc.spec h.hp.apart d hd with rfl | ⟨h1, h2⟩
    · exact hh
    · refine Chunk.keep (h.hp.hold d h1) fun g hg => x.block g (Chunk.lt (h.hp.hold d h1) hg) (fun h => h) ?_
      intro d' hd' hdg
      have : d' = c := by simpa using hd'
      subst this
      exact h2 g hdg hg
  · intro d hd g hg
    rcases hc.spec h.hp.apart d hd with rfl | ⟨h1, _⟩
    · exact (hb g hg).imp (fun h3 => ⟨c, hc.mem, h3⟩) id
    · exact .inl ⟨d, h1, hg⟩

/-- Each goes on, or is let go. -/
inductive Split : List Chunk → List Chunk → List Chunk → Prop
  | nil : Split [] [] []
  | kp {c c' : Chunk} {r ks ds : List Chunk} : c = c' → Split r ks ds → Split (c :: r) (c' :: ks) ds
  | dr {c : Chunk} {r ks ds : List Chunk} : Split r ks ds → Split (c :: r) ks (c :: ds)

def HAll (w : World) : List Chunk → Prop
  | [] => True
  | c :: r => c.holds w ∧ HAll w r

theorem HAll.of {l : List Chunk} (h : ∀ c ∈ l, c.holds w) : HAll w l := by
  induction l with
  | nil => trivial
  | cons c r ih => exact ⟨h c List.mem_cons_self, ih fun d hd => h d (List.mem_cons_of_mem _ hd)⟩

theorem Split.keeps {ks ds : List Chunk} (h : Split hs ks ds) : ks.Sublist hs := by
  induction h with
  | nil => exact .slnil
  | kp e _ ih => subst e; exact .cons_cons _ ih
  | dr _ ih => exact .cons _ ih
theorem Split.drops {ks ds : List Chunk} (h : Split hs ks ds) : ds.Sublist hs := by
  induction h with
  | nil => exact .slnil
  | kp e _ ih => exact .cons _ ih
  | dr _ ih => exact .cons_cons _ ih
theorem Split.mem {ks ds : List Chunk} (h : Split hs ks ds) : ∀ c ∈ hs, c ∈ ks ∨ c ∈ ds := by
  induction h with
  | nil => intro c hc; cases hc
  | kp e _ ih =>
    subst e
    intro c hc
    rcases List.mem_cons.1 hc with rfl | hc
    · exact .inl List.mem_cons_self
    · exact (ih c hc).imp (List.mem_cons_of_mem _) id
  | dr _ ih =>
    intro c hc
    rcases List.mem_cons.1 hc with rfl | hc
    · exact .inr List.mem_cons_self
    · exact (ih c hc).imp id (List.mem_cons_of_mem _)
theorem Split.apart {ks ds : List Chunk} (h : Split hs ks ds) (ap : Apart hs) :
    ∀ c ∈ ds, ∀ d ∈ ks, ∀ g, c.blk = some g → d.blk ≠ some g := by
  induction h with
  | nil => intro c hc; cases hc
  | kp e hs ih =>
    subst e
    obtain ⟨h1, h2⟩ := List.pairwise_cons.1 ap
    intro c hc d hd g hg hdg
    rcases List.mem_cons.1 hd with rfl | hd
    · exact h1 c (hs.drops.subset hc) g hdg hg
    · exact ih h2 c hc d hd g hg hdg
  | dr hs ih =>
    obtain ⟨h1, h2⟩ := List.pairwise_cons.1 ap
    intro c hc d hd g hg hdg
    rcases List.mem_cons.1 hc with rfl | hc
    · exact h1 d (hs.keeps.subset hd) g hg hdg
    · exact ih h2 c hc d hd g hg hdg

theorem Hp.not_av (h : Hp C w hs) {c : Chunk} (hc : c ∈ hs) {g : Nat} (hg : c.blk = some g) : ¬ C.av g := fun ha => by
  have h1 := h.av g ha
  rcases h.own c hc g hg with h2 | h2
  · exact h1.2 h2
  · omega

/-- Chunks are let go: what they held is from now on a plain fact. -/
theorem Hb.weak {ks ds : List Chunk} (h : Hb C w hs I) (hs' : Split hs ks ds) (hI : ∀ w, I w → HAll w ds → J w) : Hb C w ks J := by
  refine ⟨⟨h.hp.os, h.hp.tape, h.hp.output, h.hp.size, h.hp.keep, fun c hc => h.hp.hold c (hs'.keeps.subset hc), fun c hc => h.hp.own c (hs'.keeps.subset hc), h.hp.apart.sublist hs'.keeps, h.hp.av⟩, ?_⟩
  intro w' x
  refine hI w' (h.box w' (x.sub fun k hk ha hf => ⟨ha, fun c hc => hf c (hs'.keeps.subset hc)⟩)) (HAll.of fun c hc => ?_)
  have hc' := hs'.drops.subset hc
  refine Chunk.keep (h.hp.hold c hc') fun g hg => x.block g (Chunk.lt (h.hp.hold c hc') hg) (h.hp.not_av hc' hg) fun d hd hdg => ?_
  exact hs'.apart h.hp.apart c hc d hd g hg hdg

theorem Hb.imp (h : Hb C w hs I) (hI : ∀ w, I w → J w) : Hb C w hs J := ⟨h.hp, h.box.imp hI⟩
theorem Hb.and (h : Hb C w hs I) (hJ : Box C.av hs w J) : Hb C w hs (fun w => I w ∧ J w) := ⟨h.hp, h.box.and hJ⟩

/-- The blocks of a list of chunks. -/
def inBlks (l : List Chunk) (k : Nat) : Prop := ∃ c ∈ l, c.blk = some k
def blks (l : List Chunk) : List Nat := l.filterMap Chunk.blk
theorem mem_blks {l : List Chunk} {k : Nat} : k ∈ blks l ↔ inBlks l k := by simp [blks, inBlks, List.mem_filterMap]

/-- The state that a callee begins with: some chunks are handed to it, the others it may not lean on. -/
def Cx.sub (C : Cx) (w : World) (ks ds : List Chunk) : Cx := ⟨w, blks ks, fun k => C.av k ∨ inBlks ds k⟩

theorem Hb.pass {ks ds : List Chunk} (h : Hb C w hs I) (sp : Split hs ks ds) : Hb (C.sub w ks ds) w ks I := by
  refine ⟨⟨rfl, rfl, rfl, Nat.le_refl _, fun _ _ _ => rfl, fun c hc => h.hp.hold c (sp.keeps.subset hc), fun c hc g hg => .inl (mem_blks.2 ⟨c, hc, hg⟩), h.hp.apart.sublist sp.keeps, ?_⟩, ?_⟩
  · intro k hk
    rcases hk with hk | ⟨c, hc, hck⟩
    · have h1 := h.hp.av k hk
      refine ⟨Nat.lt_of_lt_of_le h1.1 h.hp.size, fun hm => ?_⟩
      obtain ⟨c, hc, hck⟩ := mem_blks.1 hm
      exact h.hp.not_av (sp.keeps.subset hc) hck hk
    · refine ⟨Chunk.lt (h.hp.hold c (sp.drops.subset hc)) hck, fun hm => ?_⟩
      obtain ⟨d, hd, hdk⟩ := mem_blks.1 hm
      exact sp.apart h.hp.apart c hc d hd k hck hdk
  · refine h.box.sub fun k _ ha hf => ⟨fun hk => ?_, fun c hc => hf c (sp.keeps.subset hc)⟩
    rcases hk with hk | ⟨c, hc, hck⟩
    · exact ha hk
    · exact hf c (sp.drops.subset hc) hck

/-- Behind the call. -/
theorem Hb.back {ks ds rs : List Chunk} {F : World → Prop} (h : Hb C w hs I) (sp : Split hs ks ds) (k : Hb (C.sub w ks ds) w' rs F) : Hb C w' (rs ++ ds) (fun w => I w ∧ F w) := by
  have hown : ∀ c ∈ rs, ∀ g, c.blk = some g → (∃ d ∈ ks, d.blk = some g) ∨ w.heap.size ≤ g := fun c hc g hg => (k.hp.own c hc g hg).imp (fun hm => mem_blks.1 hm) id
  have hkeep : ∀ g, g < w.heap.size → (∀ d ∈ ks, d.blk ≠ some g) → w'.heap[g]? = w.heap[g]? := fun g hg hd => k.hp.keep g hg fun hm => by
    obtain ⟨d, hd', hdg⟩ := mem_blks.1 hm
    exact hd d hd' hdg
  have h1 : Hb C w' (rs ++ ds) I := by
    refine h.step ⟨k.hp.os, k.hp.tape, k.hp.output, k.hp.size, fun g hg _ hf => hkeep g hg fun d hd => hf d (sp.keeps.subset hd)⟩ ?_ ?_ ?_
    · intro c hc
      rcases List.mem_append.1 hc with hc | hc
      · exact k.hp.hold c hc
      · exact Chunk.keep (h.hp.hold c (sp.drops.subset hc)) fun g hg => hkeep g (Chunk.lt (h.hp.hold c (sp.drops.subset hc)) hg) fun d hd => sp.apart h.hp.apart c hc d hd g hg
    · intro c hc g hg
      rcases List.mem_append.1 hc with hc | hc
      · exact (hown c hc g hg).imp (fun ⟨d, hd, hdg⟩ => ⟨d, sp.keeps.subset hd, hdg⟩) id
      · exact .inl ⟨c, sp.drops.subset hc, hg⟩
    · refine List.pairwise_append.2 ⟨k.hp.apart, h.hp.apart.sublist sp.drops, fun c hc d hd g hg hdg => ?_⟩
      have h2 := Chunk.lt (h.hp.hold d (sp.drops.subset hd)) hdg
      rcases hown c hc g hg with ⟨d', hd', hdg'⟩ | h3
      · exact sp.apart h.hp.apart d hd d' hd' g hdg hdg'
      · omega
  refine ⟨h1.hp, h1.box.and (k.box.sub fun g _ ha hf => ⟨fun hk => ha (.inl hk), fun c hc hcg => ?_⟩)⟩
  rcases List.mem_append.1 hc with hc | hc
  · exact hf c hc hcg
  · exact ha (.inr ⟨c, hc, hcg⟩)
end

end Go.Eng

/-
  The engine's sequents and rules: code, lists of operations, calls, loops, cuts, returns.
-/
namespace Go.Eng
open Go Go.RowKit

section
variable (P : Program) (N : Nat) (C : Cx)

def W (c : Code) (Q : Exit → Act → World → Prop) (e : Env) (hs : List Chunk) (I : World → Prop) : Prop :=
  ∀ a w, Fr a N e → Hb C w hs I → c.wp P Q a w
def WL (ops : Array Oper) (l : List Oper) (Q : Exit → Act → World → Prop) (e : Env) (hs : List Chunk) (I : World → Prop) : Prop :=
  ∀ a w, Fr a N e → Hb C w hs I → wpList P ops Q l a w
def QS (Q : Exit → Act → World → Prop) (x : Exit) (e : Env) (hs : List Chunk) (I : World → Prop) : Prop :=
  ∀ a w, Fr a N e → Hb C w hs I → Q x a w
/-- The operation yields this and leaves the world as it is. -/
def Run (e : Env) (hs : List Chunk) (I : World → Prop) (o : Oper) (v : Value) : Prop :=
  ∀ a w, Fr a N e → Hb C w hs I → (execOp a.eval o).run P w = .ok (.value v) w
end

section
variable {P : Program} {N : Nat} {C : Cx} {Q : Exit → Act → World → Prop} {e e' : Env} {hs hs' : List Chunk} {I J : World → Prop}

/-! ### Code -/
theorem W.seq {x y : Code} (h : W P N C x (Exit.then (y.wp P Q) Q) e hs I) : W P N C (.seq x y) Q e hs I :=
  fun a w hf hb => wp_seq (h a w hf hb)
theorem W.region {id : Nat} {l : List Oper} (h : WL P N C l.toArray l Q e hs I) : W P N C (.region id l.toArray false) Q e hs I :=
  fun a w hf hb => wp_region_lit (h a w hf hb)
theorem W.skip (h : QS N C Q .normal e hs I) : W P N C .skip Q e hs I := fun a w hf hb => wp_skip (h a w hf hb)
theorem W.exit {id : Nat} (h : QS N C Q (.exit id) e hs I) : W P N C (.exit id) Q e hs I := fun a w hf hb => wp_exit (h a w hf hb)
theorem W.ret (h : QS N C Q .ret e hs I) : W P N C .ret Q e hs I := fun a w hf hb => wp_ret (h a w hf hb)
theorem W.block {id : Nat} {c : Code} (h : W P N C c (Exit.inBlock id Q) e hs I) : W P N C (.block id c) Q e hs I :=
  fun a w hf hb => wp_block (h a w hf hb)
theorem W.cd {c : Operand} {x y : Code} {p : Prop} [hp : Decidable p] (hc : EV e c (.bool (decide p))) (ht : p → W P N C x Q e hs I) (hf : ¬ p → W P N C y Q e hs I) :
    W P N C (.cond c x y) Q e hs I := fun a w h1 h2 => by
  by_cases h : p
  · exact wp_cond_true ((h1.ev hc).trans (by simp [h])) (ht h a w h1 h2)
  · exact wp_cond_false ((h1.ev hc).trans (by simp [h])) (hf h a w h1 h2)
theorem W.cb {c : Operand} {x y : Code} {b : Bool} (hc : EV e c (.bool b)) (ht : b = true → W P N C x Q e hs I) (hf : b = false → W P N C y Q e hs I) :
    W P N C (.cond c x y) Q e hs I := fun a w h1 h2 => by
  cases b
  · exact wp_cond_false (h1.ev hc) (hf rfl a w h1 h2)
  · exact wp_cond_true (h1.ev hc) (ht rfl a w h1 h2)
theorem W.ct {c : Operand} {x y : Code} (hc : EV e c (.bool true)) (ht : W P N C x Q e hs I) : W P N C (.cond c x y) Q e hs I :=
  fun a w h1 h2 => wp_cond_true (h1.ev hc) (ht a w h1 h2)
theorem W.cf {c : Operand} {x y : Code} (hc : EV e c (.bool false)) (ht : W P N C y Q e hs I) : W P N C (.cond c x y) Q e hs I :=
  fun a w h1 h2 => wp_cond_false (h1.ev hc) (ht a w h1 h2)
theorem W.dr {c : Code} {x : Nat × Value} (h : W P N C c Q e hs I) : W P N C c Q (x :: e) hs I := fun a w hf hb => h a w hf.dr hb
theorem W.sb {c : Code} (hs1 : Sb e e') (h : W P N C c Q e' hs I) : W P N C c Q e hs I := fun a w hf hb => h a w (hf.sb hs1) hb
theorem W.weak {c : Code} {ks ds : List Chunk} (hsp : Split hs ks ds) (hI : ∀ w, I w → HAll w ds → J w) (h : W P N C c Q e ks J) : W P N C c Q e hs I :=
  fun a w hf hb => h a w hf (hb.weak hsp hI)
/-- A plain consequence of what is known. -/
theorem W.know {c : Code} {p : Prop} (hp : ∀ w, Hb C w hs I → p) (h : p → W P N C c Q e hs I) : W P N C c Q e hs I :=
  fun a w hf hb => h (hp w hb) a w hf hb
theorem W.learn {c : Code} (hp : ∀ w, Hb C w hs I → Box C.av hs w J) (h : W P N C c Q e hs (fun w => I w ∧ J w)) : W P N C c Q e hs I :=
  fun a w hf hb => h a w hf ⟨hb.hp, hb.box.and (hp w hb)⟩

/-! ### Ends -/
theorem WL.nil {ops : Array Oper} (h : QS N C Q .normal e hs I) : WL P N C ops [] Q e hs I := fun a w hf hb => wpList_nil (h a w hf hb)
theorem QS.next {y : Code} (h : W P N C y Q e hs I) : QS N C (Exit.then (y.wp P Q) Q) .normal e hs I := h
theorem QS.thenx {K : Act → World → Prop} {i : Nat} (h : QS N C Q (.exit i) e hs I) : QS N C (Exit.then K Q) (.exit i) e hs I := h
theorem QS.thenr {K : Act → World → Prop} (h : QS N C Q .ret e hs I) : QS N C (Exit.then K Q) .ret e hs I := h
theorem QS.blkn {i : Nat} (h : QS N C Q .normal e hs I) : QS N C (Exit.inBlock i Q) .normal e hs I := h
theorem QS.blkr {i : Nat} (h : QS N C Q .ret e hs I) : QS N C (Exit.inBlock i Q) .ret e hs I := h
theorem QS.blkx {i : Nat} (h : QS N C Q .normal e hs I) : QS N C (Exit.inBlock i Q) (.exit i) e hs I := fun a w hf hb => by
  simp only [Exit.inBlock, if_true]
  exact h a w hf hb
theorem QS.blky {i j : Nat} (hne : Nat.beq j i = false) (h : QS N C Q (.exit j) e hs I) : QS N C (Exit.inBlock i Q) (.exit j) e hs I := fun a w hf hb => by
  have hn : j ≠ i := fun h' => by subst h'; simp at hne
  simp only [Exit.inBlock, hn, if_false]
  exact h a w hf hb
theorem QS.dr {x : Nat × Value} {z : Exit} (h : QS N C Q z e hs I) : QS N C Q z (x :: e) hs I := fun a w hf hb => h a w hf.dr hb
theorem QS.weak {z : Exit} {ks ds : List Chunk} (hsp : Split hs ks ds) (hI : ∀ w, I w → HAll w ds → J w) (h : QS N C Q z e ks J) : QS N C Q z e hs I :=
  fun a w hf hb => h a w hf (hb.weak hsp hI)

/-! ### Loops and cuts -/
/-- The state of an invariant, for some index. -/
def At {ι : Type} (N : Nat) (C : Cx) (E : ι → Env) (H : ι → List Chunk) (J : ι → World → Prop) (ok : ι → Prop) (a : Act) (w : World) : Prop :=
  ∃ i, ok i ∧ Fr a N (E i) ∧ Hb C w (H i) (J i)

theorem QS.at {ι : Type} {E : ι → Env} {H : ι → List Chunk} {J : ι → World → Prop} {ok : ι → Prop} {ds : List Chunk} (i : ι) (hok : ok i) (he : Sb e (E i)) (hh : Split hs (H i) ds)
    (hI : ∀ w, I w → HAll w ds → J i w) : QS N C (Exit.then (At N C E H J ok) Q) .normal e hs I :=
  fun _ _ hf hb => ⟨i, hok, hf.sb he, hb.weak hh hI⟩

theorem W.loop {ι : Type} {c : Code} (E : ι → Env) (H : ι → List Chunk) (J : ι → World → Prop) (μ : ι → Nat) {ds : List Chunk} (i0 : ι) (he : Sb e (E i0)) (hh : Split hs (H i0) ds)
    (hI : ∀ w, I w → HAll w ds → J i0 w)
    (round : ∀ i, W P N C c (Exit.then (At N C E H J (fun j => μ j < μ i)) Q) (E i) (H i) (J i)) : W P N C (.loop c) Q e hs I := by
  intro a w hf hb b k cs
  have key : ∀ n (i : ι), μ i = n → ∀ a w, Fr a N (E i) → Hb C w (H i) (J i) →
      ∃ x a' w', Q x a' w' ∧ Arrives P (lone (b.at a (.code c :: .inLoop c :: k)) cs w) b k cs x a' w' := by
    intro n
    induction n using Nat.strongRecOn with
    | _ n ih =>
      intro i hi a w hf hb
      obtain ⟨x, a1, w1, hq, harr⟩ := round i a w hf hb b (.inLoop c :: k) cs
      cases x with
      | normal =>
        obtain ⟨j, hj, hfj, hbj⟩ := hq
        obtain ⟨x2, a2, w2, hq2, harr2⟩ := ih (μ j) (hi ▸ hj) j rfl a1 w1 hfj hbj
        exact ⟨x2, a2, w2, hq2, .of_steps (Steps.trans harr (.one step_inLoop)) harr2⟩
      | exit id => exact ⟨_, a1, w1, hq, .pass (x := .inLoop c) rfl (fun _ _ => .inl (by simp)) harr⟩
      | goto l => exact ⟨_, a1, w1, hq, .pass (x := .inLoop c) rfl (fun _ _ => .inl (by simp)) harr⟩
      | ret => exact ⟨_, a1, w1, hq, .pass (x := .inLoop c) rfl (fun _ _ => .inl (by simp)) harr⟩
      | panic ch => exact ⟨_, a1, w1, hq, .pass (x := .inLoop c) rfl (fun _ _ => .inl (by simp)) harr⟩
      | outgrown => exact ⟨_, a1, w1, hq, .pass (x := .inLoop c) rfl (fun _ _ => .inl (by simp)) harr⟩
  obtain ⟨x, a', w', hq, harr⟩ := key _ i0 rfl a w (hf.sb he) (hb.weak hh hI)
  exact ⟨x, a', w', hq, .of_steps (.one step_loop) harr⟩

/-- The ways of a piece of code meet again in one state. -/
theorem W.join {ι : Type} {c : Code} (E : ι → Env) (H : ι → List Chunk) (J : ι → World → Prop)
    (h : W P N C c (Exit.then (At N C E H J (fun _ => True)) Q) e hs I) (h2 : ∀ i, QS N C Q .normal (E i) (H i) (J i)) : W P N C c Q e hs I :=
  fun a w hf hb => wp_mono (h a w hf hb) fun x a' w' hq => by
    cases x with
    | normal => obtain ⟨i, _, h3, h4⟩ := hq; exact h2 i a' w' h3 h4
    | _ => exact hq

/-! ### Calls -/
/-- What a call of a function comes to. -/
def Sp (P : Program) (f : FuncId) (args : List Value) (C : Cx) {ι : Type} (v : ι → Value) (H : ι → List Chunk) (F : ι → World → Prop) : Prop :=
  Calls P f args.toArray C.w0 fun e w' => ∃ x, e = .returned (v x) ∧ Hb C w' (H x) (F x)

def GoFn (P : Program) (f : FuncId) : Prop := ∃ fn, P.funcs[f]? = some fn ∧ ¬ fn.name = "runtime.NumGoroutine" ∧ ¬ fn.body = none

theorem GoFn.mk {f : FuncId} (fn : Func) (h1 : P.funcs[f]? = some fn) (h2 : (fn.name == "runtime.NumGoroutine") = false) (h3 : fn.body.isNone = false) : GoFn P f :=
  ⟨fn, h1, by simpa using h2, fun h => by rw [h] at h3; cases h3⟩

theorem run_call {f : FuncId} (hg : GoFn P f) {a : Act} {ars : List Operand} {ats : Array TypeId} {vs : List Value} {w : World} {d : Option Tmp} {ty : TypeId} {pos : String} {af : Array Edge} {gd : Option (Nat × Bool)}
    {fo : Operand} (hfo : a.eval fo = .func (.func f) #[] #[]) (hv : ars.map a.eval = vs) :
    (execOp a.eval ⟨d, .call ⟨.value fo, ars.toArray, ats⟩, ty, pos, af, gd⟩).run P w = .ok (.enter f vs.toArray) w := by
  obtain ⟨fn, h1, h2, h3⟩ := hg
  subst hv
  simp [execOp, resolve, Deferred.ofValue, invoke, callFunc, hfo, h1, h2, h3]

/-- A call: some chunks are handed to the callee. -/
theorem WL.call {ι : Type} {ops : Array Oper} {rest : List Oper} {f : FuncId} {ars : List Operand} {ats : Array TypeId} {vs : List Value} {d : Tmp} {ty : TypeId} {pos : String} {af : Array Edge}
    {fo : Operand} {v : ι → Value} {H : ι → List Chunk} {F : ι → World → Prop} {ks ds : List Chunk} (hg : GoFn P f) (hfo : EV e fo (.func (.func f) #[] #[])) (has : EVA e ars vs) (sp : Split hs ks ds)
    (hC : ∀ w, Hb (C.sub w ks ds) w ks I → Sp P f vs (C.sub w ks ds) v H F) (hfr : fresh N e d = true)
    (h : ∀ x, WL P N C ops rest Q ((d, v x) :: e) (H x ++ ds) (fun w => I w ∧ F x w)) :
    WL P N C ops (⟨some d, .call ⟨.value fo, ars.toArray, ats⟩, ty, pos, af, none⟩ :: rest) Q e hs I := by
  intro a w hf hb
  refine wpList_plain rfl fun K hK => ?_
  unfold Oper.wp
  rw [run_call hg (hf.ev hfo) (hf.eva has)]
  refine (hC w (hb.pass sp)).mono fun x w' hx => ?_
  obtain ⟨i, rfl, hbi⟩ := hx
  exact hK _ _ (h i _ _ (hf.put hfr) (hb.back sp hbi))
/-- The same where no result is kept. -/
theorem WL.calln {ι : Type} {ops : Array Oper} {rest : List Oper} {f : FuncId} {ars : List Operand} {ats : Array TypeId} {vs : List Value} {ty : TypeId} {pos : String} {af : Array Edge}
    {fo : Operand} {v : ι → Value} {H : ι → List Chunk} {F : ι → World → Prop} {ks ds : List Chunk} (hg : GoFn P f) (hfo : EV e fo (.func (.func f) #[] #[])) (has : EVA e ars vs) (sp : Split hs ks ds)
    (hC : ∀ w, Hb (C.sub w ks ds) w ks I → Sp P f vs (C.sub w ks ds) v H F)
    (h : ∀ x, WL P N C ops rest Q e (H x ++ ds) (fun w => I w ∧ F x w)) :
    WL P N C ops (⟨none, .call ⟨.value fo, ars.toArray, ats⟩, ty, pos, af, none⟩ :: rest) Q e hs I := by
  intro a w hf hb
  refine wpList_plain rfl fun K hK => ?_
  unfold Oper.wp
  rw [run_call hg (hf.ev hfo) (hf.eva has)]
  refine (hC w (hb.pass sp)).mono fun x w' hx => ?_
  obtain ⟨i, rfl, hbi⟩ := hx
  exact hK _ _ (h i _ _ hf (hb.back sp hbi))

/-! ### Plain operations -/
theorem WL.st {ops : Array Oper} {rest : List Oper} {d : Tmp} {op : Op} {ty : TypeId} {pos : String} {af : Array Edge} {v : Value}
    (ho : Run P N C e hs I ⟨some d, op, ty, pos, af, none⟩ v) (hfr : fresh N e d = true) (h : WL P N C ops rest Q ((d, v) :: e) hs I) :
    WL P N C ops (⟨some d, op, ty, pos, af, none⟩ :: rest) Q e hs I := by
  intro a w hf hb
  refine wpList_plain rfl fun K hK => ?_
  unfold Oper.wp
  rw [ho a w hf hb]
  exact hK _ _ (h _ _ (hf.put hfr) hb)
theorem WL.as {ops : Array Oper} {rest : List Oper} {d : Tmp} {x : Operand} {ty : TypeId} {pos : String} {af : Array Edge} {v : Value}
    (hx : EV e x v) (hu : Upd e d v e') (hN : inN N d = true) (h : WL P N C ops rest Q e' hs I) :
    WL P N C ops (⟨some d, .assign x, ty, pos, af, none⟩ :: rest) Q e hs I := by
  intro a w hf hb
  refine wpList_plain rfl fun K hK => ?_
  unfold Oper.wp
  have : (execOp a.eval ⟨some d, .assign x, ty, pos, af, none⟩).run P w = .ok (.value v) w := by
    rw [← hf.ev hx]
    rfl
  rw [this]
  exact hK _ _ (h _ _ (hf.upd hu hN) hb)
/-- a slot of the list is written again (a temporary that is used twice; a variable written by 'move') -/
theorem WL.up {ops : Array Oper} {rest : List Oper} {d : Tmp} {op : Op} {ty : TypeId} {pos : String} {af : Array Edge} {v : Value}
    (ho : Run P N C e hs I ⟨some d, op, ty, pos, af, none⟩ v) (hu : Upd e d v e') (hN : inN N d = true) (h : WL P N C ops rest Q e' hs I) :
    WL P N C ops (⟨some d, op, ty, pos, af, none⟩ :: rest) Q e hs I := by
  intro a w hf hb
  refine wpList_plain rfl fun K hK => ?_
  unfold Oper.wp
  rw [ho a w hf hb]
  exact hK _ _ (h _ _ (hf.upd hu hN) hb)

/-! ### Guards -/
def gslot (ops : Array Oper) (j : Nat) : Option Tmp := (ops[j]?).bind (·.dst)

theorem wanted_of {ops : Array Oper} {o : Oper} {j s : Nat} {want b : Bool} {a : Act} (hf : Fr a N e) (hgd : o.guard = some (j, want)) (hs : gslot ops j = some s) (hl : Look e s (.bool b)) :
    Region.wanted o (yielded ops a.tmps) = (b == want) := by
  have h1 := hf.look hl
  have h2 : a.tmps[s]? = some (.bool b) := by
    cases h : a.tmps[s]? with
    | none => rw [Array.getD_eq_getD_getElem?, h] at h1; simp [undef] at h1
    | some x => rw [Array.getD_eq_getD_getElem?, h] at h1; simpa using h1
  unfold gslot at hs
  simp only [Region.wanted, hgd, yielded, hs, Option.bind_some, h2]
  cases b <;> cases want <;> rfl

/-- The guard says yes. -/
theorem WL.gy {ops : Array Oper} {rest : List Oper} {d : Tmp} {op : Op} {ty : TypeId} {pos : String} {af : Array Edge} {v : Value} {j s : Nat} {want : Bool}
    (hsl : gslot ops j = some s) (hl : Look e s (.bool want))
    (ho : Run P N C e hs I ⟨some d, op, ty, pos, af, none⟩ v) (hfr : fresh N e d = true) (h : WL P N C ops rest Q ((d, v) :: e) hs I) :
    WL P N C ops (⟨some d, op, ty, pos, af, some (j, want)⟩ :: rest) Q e hs I := by
  intro a w hf hb
  refine wpList_step fun K hK => ?_
  rw [wanted_of hf (o := ⟨some d, op, ty, pos, af, some (j, want)⟩) rfl hsl hl]
  simp only [beq_self_eq_true, if_true]
  unfold Oper.wp
  have := ho a w hf hb
  rw [show (execOp a.eval ⟨some d, op, ty, pos, af, some (j, want)⟩) = execOp a.eval ⟨some d, op, ty, pos, af, none⟩ from rfl, this]
  exact hK _ _ (h _ _ (hf.put hfr) hb)
/-- The guard says no: the slot is left behind. -/
theorem WL.gn {ops : Array Oper} {rest : List Oper} {d : Tmp} {op : Op} {ty : TypeId} {pos : String} {af : Array Edge} {j s : Nat} {want : Bool}
    (hsl : gslot ops j = some s) (hl : Look e s (.bool (!want))) (hfr : fresh N e d = true) (h : WL P N C ops rest Q ((d, undef) :: e) hs I) :
    WL P N C ops (⟨some d, op, ty, pos, af, some (j, want)⟩ :: rest) Q e hs I := by
  intro a w hf hb
  refine wpList_step fun K hK => ?_
  rw [wanted_of hf (o := ⟨some d, op, ty, pos, af, some (j, want)⟩) rfl hsl hl]
  have : ((!want) == want) = false := by cases want <;> rfl
  rw [this]
  simp only [Bool.false_eq_true, if_false]
  exact hK _ _ (h _ _ (hf.put hfr) hb)
/-- A test in a slot is decided: both ways. -/
theorem WL.cd {ops : Array Oper} {l : List Oper} {s : Nat} {p : Prop} [Decidable p] {e1 e2 : Env} (hl : Look e s (.bool (decide p))) (h1 : Upd e s (.bool true) e1) (h2 : Upd e s (.bool false) e2)
    (ht : p → WL P N C ops l Q e1 hs I) (hf : ¬ p → WL P N C ops l Q e2 hs I) : WL P N C ops l Q e hs I := by
  intro a w hfr hb
  by_cases h : p
  · refine ht h a w ⟨hfr.size, hfr.defers, ?_, by rw [h1.keys]; exact hfr.nd⟩ hb
    intro q hq
    rcases h1.spec hfr.nd q hq with rfl | ⟨h3, _⟩
    · rw [hfr.look hl]; simp [h]
    · exact hfr.val q h3
  · refine hf h a w ⟨hfr.size, hfr.defers, ?_, by rw [h2.keys]; exact hfr.nd⟩ hb
    intro q hq
    rcases h2.spec hfr.nd q hq with rfl | ⟨h3, _⟩
    · rw [hfr.look hl]; simp [h]
    · exact hfr.val q h3
theorem WL.cb {ops : Array Oper} {l : List Oper} {s : Nat} {b : Bool} {e1 e2 : Env} (hl : Look e s (.bool b)) (h1 : Upd e s (.bool true) e1) (h2 : Upd e s (.bool false) e2)
    (ht : b = true → WL P N C ops l Q e1 hs I) (hf : b = false → WL P N C ops l Q e2 hs I) : WL P N C ops l Q e hs I :=
  WL.cd (p := b = true) (by simpa using hl) h1 h2 ht (fun h => hf (by simpa using h))
/-- A slot's value is written in another way. -/
theorem WL.rw {ops : Array Oper} {l : List Oper} {s : Nat} {v v' : Value} (hl : Look e s v) (hv : v = v') (h1 : Upd e s v' e') (h : WL P N C ops l Q e' hs I) : WL P N C ops l Q e hs I := by
  intro a w hfr hb
  subst hv
  refine h a w ⟨hfr.size, hfr.defers, ?_, by rw [h1.keys]; exact hfr.nd⟩ hb
  intro q hq
  rcases h1.spec hfr.nd q hq with rfl | ⟨h3, _⟩
  · exact hfr.look hl
  · exact hfr.val q h3
theorem WL.weak {ops : Array Oper} {l : List Oper} {ks ds : List Chunk} (hsp : Split hs ks ds) (hI : ∀ w, I w → HAll w ds → J w) (h : WL P N C ops l Q e ks J) : WL P N C ops l Q e hs I :=
  fun a w hf hb => h a w hf (hb.weak hsp hI)
theorem WL.know {ops : Array Oper} {l : List Oper} {p : Prop} (hp : ∀ w, Hb C w hs I → p) (h : p → WL P N C ops l Q e hs I) : WL P N C ops l Q e hs I :=
  fun a w hf hb => h (hp w hb) a w hf hb

/-! ### Entering, and returning -/
def EnvOk (t : Array Value) : Env → Prop
  | [] => True
  | p :: r => t.getD p.1 undef = p.2 ∧ EnvOk t r
theorem EnvOk.spec {t : Array Value} {e : Env} (h : EnvOk t e) : ∀ p ∈ e, t.getD p.1 undef = p.2 := by
  induction e with
  | nil => simp
  | cons p r ih =>
    intro q hq
    rcases List.mem_cons.1 hq with rfl | hq
    · exact h.1
    · exact ih h.2 q hq
def keysOk (e : Env) : Bool := (e.map (·.1)).Pairwise (· ≠ ·)
end

theorem Sp.enter {P : Program} {f : FuncId} {fn : Func} {c : Code} {args : List Value} {C : Cx} {ι : Type} {v : ι → Value} {H : ι → List Chunk} {F : ι → World → Prop} {N : Nat} {e : Env} {hs : List Chunk} {I : World → Prop}
    (hfn : P.funcs[f]? = some fn) (hc : fn.body = some c) (hN : fn.ntmps = N) (hle : args.length ≤ N) (he : EnvOk (args.toArray ++ Array.replicate (N - args.length) undef) e) (hk : (e.map (·.1)).Nodup)
    (hb : Hb C C.w0 hs I) (h : W P N C c (bodyPost P fn fun x w' => ∃ i, x = .returned (v i) ∧ Hb C w' (H i) (F i)) e hs I) : Sp P f args C v H F := by
  refine calls_of_wp hfn hc (h _ _ ⟨?_, rfl, ?_, hk⟩ hb)
  · simp [hN]; omega
  · have := EnvOk.spec he
    simpa [hN] using this

section
variable {P : Program} {N : Nat} {C : Cx} {e : Env} {hs : List Chunk} {I : World → Prop} {fn : Func} {ι : Type} {v : ι → Value} {H : ι → List Chunk} {F : ι → World → Prop}

/-- What the results hold. -/
inductive Res (e : Env) (hs : List Chunk) : List ResultVar → List Value → Prop
  | nil : Res e hs [] []
  | tmp {t : Nat} {x : Value} {rs : List ResultVar} {vs : List Value} : Look e t x → Res e hs rs vs → Res e hs (.tmp t :: rs) (x :: vs)

theorem QS.fin0 {z : Exit} (hz : z = .ret ∨ z = .normal) {ds : List Chunk} (hr : fn.results = #[]) (i : ι) (hv : Value.tuple #[] = v i) (hh : Split hs (H i) ds)
    (hI : ∀ w, I w → HAll w ds → F i w) : QS N C (bodyPost P fn fun x w' => ∃ i, x = .returned (v i) ∧ Hb C w' (H i) (F i)) z e hs I := by
  intro a w hf hb
  have : a.defers = [] ∧ ∃ u, (results fn a.tmps).run P w = .ok u w ∧ ∃ i, Ending.returned u = .returned (v i) ∧ Hb C w (H i) (F i) :=
    ⟨hf.defers, _, results_none hr _ _ _, i, by rw [hv], hb.weak hh hI⟩
  rcases hz with rfl | rfl <;> exact this
theorem QS.fin1 {z : Exit} (hz : z = .ret ∨ z = .normal) {ds : List Chunk} {t : Nat} {x : Value} (hr : fn.results = #[.tmp t]) (hl : Look e t x) (i : ι) (hv : x = v i) (hh : Split hs (H i) ds)
    (hI : ∀ w, I w → HAll w ds → F i w) : QS N C (bodyPost P fn fun x w' => ∃ i, x = .returned (v i) ∧ Hb C w' (H i) (F i)) z e hs I := by
  intro a w hf hb
  have : a.defers = [] ∧ ∃ u, (results fn a.tmps).run P w = .ok u w ∧ ∃ i, Ending.returned u = .returned (v i) ∧ Hb C w (H i) (F i) :=
    ⟨hf.defers, _, results_tmp hr _ _ _, i, by rw [hf.look hl, hv], hb.weak hh hI⟩
  rcases hz with rfl | rfl <;> exact this
end
end Go.Eng

/-
  The engine's operations: one lemma for each kind.
-/
namespace Go.Eng
open Go Go.RowKit

/-! ### Facts on types, each a closed Bool -/
def tSc (P : Program) (t : TypeId) : Bool := match P.underlying t with | some (.struct _) => false | some (.array _ _) => false | some _ => true | none => false
def tAg (P : Program) (t : TypeId) (n : Nat) : Bool := (match P.underlying t with | some (.struct _) => true | some (.array _ _) => true | _ => false) && (match P.info? t with | some i => Nat.beq i.size n | none => false)
def tSz (P : Program) (t : TypeId) (n : Nat) : Bool := match P.info? t with | some i => Nat.beq i.size n | none => false
def tFo (P : Program) (s f o : Nat) : Bool := match P.underlying s with
  | some (.struct fs) => (match fs[f]? with | some x => (match P.info? x.type with | some i => decide (i.size ≠ 0) && Nat.beq x.offset o | none => false) | none => false)
  | _ => false
def tSl (P : Program) (t e s : Nat) : Bool := (match P.underlying t with | some (.slice e') => Nat.beq e e' | _ => false) && tSz P e s
def tZ (P : Program) (t : Nat) (z : List Value) : Prop := ∃ i v, P.info? t = some i ∧ i.zero = some v ∧ v.cells = z.toArray

section
variable {P : Program}
theorem tSc_spec {t : TypeId} (h : tSc P t = true) : ∀ w, (isAgg t).run P w = .ok false w := by
  intro w
  unfold tSc at h
  split at h <;> first | cases h | skip
  rename_i d h1 h2 hd
  simp only [isAgg, Sem.run_bind, run_underlying hd, Result.andThen_ok]
  cases d <;> first | exact absurd rfl (h1 _) | exact absurd rfl (h2 _ _) | rfl
theorem tSz_spec {t n : Nat} (h : tSz P t n = true) : ∃ i, P.info? t = some i ∧ i.size = n := by
  unfold tSz at h
  split at h
  · rename_i i hi; exact ⟨i, hi, by simpa using h⟩
  · cases h
theorem tAg_spec {t n : Nat} (h : tAg P t n = true) : (∀ w, (isAgg t).run P w = .ok true w) ∧ ∃ i, P.info? t = some i ∧ i.size = n := by
  unfold tAg at h
  simp only [Bool.and_eq_true] at h
  refine ⟨fun w => ?_, tSz_spec (by unfold tSz; exact h.2)⟩
  have h1 := h.1
  split at h1 <;> first | cases h1 | skip
  · rename_i hd
    simp only [isAgg, Sem.run_bind, run_underlying hd, Result.andThen_ok]
    rfl
  · rename_i hd
    simp only [isAgg, Sem.run_bind, run_underlying hd, Result.andThen_ok]
    rfl
theorem run_sizeOf' {t n : Nat} (h : tSz P t n = true) (w : World) : (sizeOf t).run P w = .ok n w := by
  obtain ⟨i, hi, hs⟩ := tSz_spec h
  simp [sizeOf, typeInfo, hi, hs]
theorem tFo_spec {s f o : Nat} (h : tFo P s f o = true) : ∃ fs x i, P.underlying s = some (.struct fs) ∧ fs[f]? = some x ∧ P.info? x.type = some i ∧ i.size ≠ 0 ∧ x.offset = o := by
  unfold tFo at h
  split at h <;> first | cases h | skip
  rename_i fs hs
  split at h <;> first | cases h | skip
  rename_i x hx
  split at h <;> first | cases h | skip
  rename_i i hi
  simp only [Bool.and_eq_true] at h
  exact ⟨fs, x, i, hs, hx, hi, by simpa using h.1, by simpa using h.2⟩
theorem tSl_spec {t e s : Nat} (h : tSl P t e s = true) : P.underlying t = some (.slice e) ∧ tSz P e s = true := by
  unfold tSl at h
  simp only [Bool.and_eq_true] at h
  refine ⟨?_, h.2⟩
  have h1 := h.1
  split at h1
  · rename_i e' he
    have : e = e' := by simpa using h1
    rw [this]; exact he
  · cases h1
end

/-! ### Rows of cells -/
/-- A part of a list. -/
inductive LGet : List Value → Nat → Nat → List Value → Prop
  | zero {l : List Value} : LGet l 0 0 []
  | here {x : Value} {r vs : List Value} {n : Nat} : LGet r 0 n vs → LGet (x :: r) 0 (n + 1) (x :: vs)
  | skip {x : Value} {r vs : List Value} {o n : Nat} : LGet r o n vs → LGet (x :: r) (o + 1) n vs
theorem LGet.spec {l vs : List Value} {o n : Nat} (h : LGet l o n vs) : vs.length = n ∧ ∀ j v, vs[j]? = some v → l[o + j]? = some v := by
  induction h with
  | zero => exact ⟨rfl, by simp⟩
  | here _ ih =>
    refine ⟨by simp [ih.1], fun j v hj => ?_⟩
    cases j with
    | zero => simpa using hj
    | succ j =>
      have := ih.2 j v (by simpa using hj)
      simpa using this
  | @skip x r vs o n _ ih =>
    refine ⟨ih.1, fun j v hj => ?_⟩
    rw [show o + 1 + j = (o + j) + 1 by omega, List.getElem?_cons_succ]
    exact ih.2 j v hj
theorem LGet.one {l : List Value} {o : Nat} {v : Value} (h : LGet l o 1 [v]) : l[o]? = some v := by
  have := h.spec.2 0 v rfl
  simpa using this
/-- A part of a list is written. -/
inductive LPut : List Value → Nat → List Value → List Value → Prop
  | zero {l : List Value} : LPut l 0 [] l
  | here {x v : Value} {r r' vs : List Value} : LPut r 0 vs r' → LPut (x :: r) 0 (v :: vs) (v :: r')
  | skip {x : Value} {r r' vs : List Value} {o : Nat} : LPut r o vs r' → LPut (x :: r) (o + 1) vs (x :: r')
theorem LPut.spec {l l' vs : List Value} {o : Nat} (h : LPut l o vs l') : o + vs.length ≤ l.length ∧ l' = l.take o ++ vs ++ l.drop (o + vs.length) := by
  induction h with
  | zero => simp
  | here _ ih => exact ⟨by have := ih.1; simp at this ⊢; omega, by simp [ih.2]⟩
  | @skip x r r' vs o _ ih =>
    refine ⟨by have := ih.1; simp at this ⊢; omega, ?_⟩
    rw [ih.2, show o + 1 + vs.length = (o + vs.length) + 1 by omega]
    simp

@[reducible] def blk (g t : Nat) (l : List Value) : Chunk := .obj g (.cells l.toArray t (0, 0))

def Has (hs : List Chunk) (c : Chunk) : Prop := c ∈ hs
theorem Has.h0 {c : Chunk} {r : List Chunk} : Has (c :: r) c := List.mem_cons_self
theorem Has.hn {c x : Chunk} {r : List Chunk} (h : Has r c) : Has (x :: r) c := List.mem_cons_of_mem _ h

section
variable {P : Program} {N : Nat} {C : Cx} {Q : Exit → Act → World → Prop} {e e' : Env} {hs hs' : List Chunk} {I J : World → Prop}
variable {d : Option Tmp} {ty : TypeId} {pos : String} {af : Array Edge} {gd : Option (Nat × Bool)}

theorem R.mv {x : Operand} {v : Value} (hx : EV e x v) : Run P N C e hs I ⟨d, .move x, ty, pos, af, gd⟩ v := fun a w hf _ => by
  rw [← hf.ev hx]; rfl
theorem R.as {x : Operand} {v : Value} (hx : EV e x v) : Run P N C e hs I ⟨d, .assign x, ty, pos, af, gd⟩ v := fun a w hf _ => by
  rw [← hf.ev hx]; rfl
inductive TGet : List Value → Nat → Value → Prop
  | here {v : Value} {r : List Value} : TGet (v :: r) 0 v
  | skip {x v : Value} {r : List Value} {n : Nat} : TGet r n v → TGet (x :: r) (n + 1) v
theorem TGet.spec {l : List Value} {n : Nat} {v : Value} (h : TGet l n v) : l[n]? = some v := by
  induction h with
  | here => rfl
  | skip _ ih => simpa using ih
theorem R.ex {x : Operand} {l : List Value} {n : Nat} {v : Value} (hx : EV e x (.tuple l.toArray)) (hl : TGet l n v) : Run P N C e hs I ⟨d, .extract x n, ty, pos, af, gd⟩ v := fun a w hf _ => by
  have := hl.spec
  simp [execOp, hf.ev hx, Instr.extract, this]
theorem R.nc {x : Operand} {p : Addr} (hx : EV e x (.pointer (some p))) : Run P N C e hs I ⟨d, .nilCheck x, ty, pos, af, gd⟩ (.pointer (some p)) := fun a w hf _ => by
  simp [execOp, hf.ev hx]
theorem R.pkt {c x y : Operand} {v : Value} (hc : EV e c (.bool true)) (hx : EV e x v) : Run P N C e hs I ⟨d, .pick c x y, ty, pos, af, gd⟩ v := fun a w hf _ => by
  simp [execOp, hf.ev hc, hf.ev hx, asBool]
theorem R.pkf {c x y : Operand} {v : Value} (hc : EV e c (.bool false)) (hy : EV e y v) : Run P N C e hs I ⟨d, .pick c x y, ty, pos, af, gd⟩ v := fun a w hf _ => by
  simp [execOp, hf.ev hc, hf.ev hy, asBool]

/-! integers -/
theorem wi {x : Int} (h1 : -9223372036854775808 ≤ x) (h2 : x ≤ 9223372036854775807) : IntKind.i64.wrap x = x := IntWalk.i64_in x ⟨h1, h2⟩
section ints
variable {x y : Operand} {k : IntKind} {m n r : Int} {tx tyy : TypeId}
theorem R.add (hx : EV e x (.int k m)) (hy : EV e y (.int k n)) (h : k.wrap (m + n) = r) : Run P N C e hs I ⟨d, .binOp .add tx x y tyy, ty, pos, af, gd⟩ (.int k r) := fun a w hf _ => by
  simp [execOp, eqGuard, binOp, Op.intArith, hf.ev hx, hf.ev hy, h]
theorem R.sub (hx : EV e x (.int k m)) (hy : EV e y (.int k n)) (h : k.wrap (m - n) = r) : Run P N C e hs I ⟨d, .binOp .sub tx x y tyy, ty, pos, af, gd⟩ (.int k r) := fun a w hf _ => by
  simp [execOp, eqGuard, binOp, Op.intArith, hf.ev hx, hf.ev hy, h]
theorem R.mul (hx : EV e x (.int k m)) (hy : EV e y (.int k n)) (h : k.wrap (m * n) = r) : Run P N C e hs I ⟨d, .binOp .mul tx x y tyy, ty, pos, af, gd⟩ (.int k r) := fun a w hf _ => by
  simp [execOp, eqGuard, binOp, Op.intArith, hf.ev hx, hf.ev hy, h]
theorem R.quo (hx : EV e x (.int k m)) (hy : EV e y (.int k n)) (h0 : n ≠ 0) (h : k.wrap (m.tdiv n) = r) : Run P N C e hs I ⟨d, .binOp .quo tx x y tyy, ty, pos, af, gd⟩ (.int k r) := fun a w hf _ => by
  simp [execOp, eqGuard, binOp, Op.intDiv, hf.ev hx, hf.ev hy, h, h0]
theorem R.rem (hx : EV e x (.int k m)) (hy : EV e y (.int k n)) (h0 : n ≠ 0) (h : m.tmod n = r) : Run P N C e hs I ⟨d, .binOp .rem tx x y tyy, ty, pos, af, gd⟩ (.int k r) := fun a w hf _ => by
  simp [execOp, eqGuard, binOp, Op.intDiv, hf.ev hx, hf.ev hy, h, h0]
theorem R.lss (hx : EV e x (.int k m)) (hy : EV e y (.int k n)) : Run P N C e hs I ⟨d, .binOp .lss tx x y tyy, ty, pos, af, gd⟩ (.bool (decide (m < n))) := fun a w hf _ => by
  simp [execOp, eqGuard, binOp, Op.intCmp, hf.ev hx, hf.ev hy]
theorem R.leq (hx : EV e x (.int k m)) (hy : EV e y (.int k n)) : Run P N C e hs I ⟨d, .binOp .leq tx x y tyy, ty, pos, af, gd⟩ (.bool (decide (m ≤ n))) := fun a w hf _ => by
  simp [execOp, eqGuard, binOp, Op.intCmp, hf.ev hx, hf.ev hy]
theorem R.gtr (hx : EV e x (.int k m)) (hy : EV e y (.int k n)) : Run P N C e hs I ⟨d, .binOp .gtr tx x y tyy, ty, pos, af, gd⟩ (.bool (decide (n < m))) := fun a w hf _ => by
  simp [execOp, eqGuard, binOp, Op.intCmp, hf.ev hx, hf.ev hy]
theorem R.geq (hx : EV e x (.int k m)) (hy : EV e y (.int k n)) : Run P N C e hs I ⟨d, .binOp .geq tx x y tyy, ty, pos, af, gd⟩ (.bool (decide (n ≤ m))) := fun a w hf _ => by
  simp [execOp, eqGuard, binOp, Op.intCmp, hf.ev hx, hf.ev hy]
theorem R.eqi (hx : EV e x (.int k m)) (hy : EV e y (.int k n)) : Run P N C e hs I ⟨d, .binOp .eql tx x y tyy, ty, pos, af, gd⟩ (.bool (decide (m = n))) := fun a w hf _ => by
  have hb : (m == n) = decide (m = n) := by by_cases h : m = n <;> simp [h]
  simp [execOp, eqGuard, binOp, Op.intCmp, hf.ev hx, hf.ev hy, hb]
theorem R.nei (hx : EV e x (.int k m)) (hy : EV e y (.int k n)) : Run P N C e hs I ⟨d, .binOp .neq tx x y tyy, ty, pos, af, gd⟩ (.bool (decide (m ≠ n))) := fun a w hf _ => by
  have hb : (m != n) = decide (m ≠ n) := by by_cases h : m = n <;> simp [h]
  simp [execOp, eqGuard, binOp, Op.intCmp, hf.ev hx, hf.ev hy, hb]
theorem R.bits {op : BinOp} (hop : op = .and ∨ op = .or ∨ op = .xor ∨ op = .andNot) (hx : EV e x (.int k m)) (hy : EV e y (.int k n)) (h : Op.intBits op k m n = pure (.int k r)) :
    Run P N C e hs I ⟨d, .binOp op tx x y tyy, ty, pos, af, gd⟩ (.int k r) := fun a w hf _ => by
  rcases hop with rfl | rfl | rfl | rfl <;> simp [execOp, eqGuard, binOp, hf.ev hx, hf.ev hy, h]
theorem R.shl {k2 : IntKind} (hx : EV e x (.int k m)) (hy : EV e y (.int k2 n)) (h0 : 0 ≤ n) (h : k.wrap (m * 2 ^ (min n.toNat k.bits)) = r) : Run P N C e hs I ⟨d, .binOp .shl tx x y tyy, ty, pos, af, gd⟩ (.int k r) := fun a w hf _ => by
  have : ¬ n < 0 := by omega
  simp [execOp, eqGuard, binOp, Op.shift, hf.ev hx, hf.ev hy, this, h]
theorem R.shr {k2 : IntKind} (hx : EV e x (.int k m)) (hy : EV e y (.int k2 n)) (h0 : 0 ≤ n) (h : m.fdiv (2 ^ (min n.toNat k.bits)) = r) : Run P N C e hs I ⟨d, .binOp .shr tx x y tyy, ty, pos, af, gd⟩ (.int k r) := fun a w hf _ => by
  have : ¬ n < 0 := by omega
  simp [execOp, eqGuard, binOp, Op.shift, hf.ev hx, hf.ev hy, this, h]
theorem R.neg (hx : EV e x (.int k m)) (h : k.wrap (0 - m) = r) : Run P N C e hs I ⟨d, .unOp .neg tx x, ty, pos, af, gd⟩ (.int k r) := fun a w hf _ => by
  have h' : k.wrap (-m) = r := by rw [← h]; simp
  simp [execOp, Op.unary, Op.intArith, hf.ev hx, h']
def tInt (P : Program) (t : TypeId) (k : IntKind) : Bool := match P.underlying t with | some (.int k') => decide (k = k') | _ => false
theorem R.cvi {k2 : IntKind} {src dst : TypeId} {ds : TypeDesc} (hs1 : P.underlying src = some ds) (ht : tInt P dst k2 = true) (hx : EV e x (.int k m)) (h : k2.wrap m = r) : Run P N C e hs I ⟨d, .convert src dst x, ty, pos, af, gd⟩ (.int k2 r) := fun a w hf _ => by
  unfold tInt at ht
  split at ht
  · rename_i k' hk
    have : k2 = k' := by simpa using ht
    subst this
    simp [execOp, convert, run_underlying hk, run_underlying hs1, Conv.intToInt, hf.ev hx, h]
  · cases ht
theorem R.not {p : Prop} [Decidable p] (hx : EV e x (.bool (decide p))) : Run P N C e hs I ⟨d, .unOp .not tx x, ty, pos, af, gd⟩ (.bool (decide (¬ p))) := fun a w hf _ => by
  simp [execOp, Op.unary, hf.ev hx]
theorem R.notb {b : Bool} (hx : EV e x (.bool b)) : Run P N C e hs I ⟨d, .unOp .not tx x, ty, pos, af, gd⟩ (.bool (!b)) := fun a w hf _ => by
  simp [execOp, Op.unary, hf.ev hx]
theorem R.maxi {tt : Array TypeId} (hx : EV e x (.int k m)) (hy : EV e y (.int k n)) (h : (if n > m then n else m) = r) : Run P N C e hs I ⟨d, .call ⟨.builtin .max, #[x, y], tt⟩, ty, pos, af, gd⟩ (.int k r) := fun a w hf _ => by
  simp only [gt_iff_lt] at h
  simp [execOp, resolve, invoke, builtin, Builtin.max_, Builtin.max2, hf.ev hx, hf.ev hy, h]
theorem R.mini {tt : Array TypeId} (hx : EV e x (.int k m)) (hy : EV e y (.int k n)) (h : (if n < m then n else m) = r) : Run P N C e hs I ⟨d, .call ⟨.builtin .min, #[x, y], tt⟩, ty, pos, af, gd⟩ (.int k r) := fun a w hf _ => by
  simp [execOp, resolve, invoke, builtin, Builtin.min_, Builtin.min2, hf.ev hx, hf.ev hy, h]
end ints
end
end Go.Eng

/-
  The engine's operations on memory and strings.
-/
namespace Go.Eng
open Go Go.RowKit

@[reducible] def str (l : List UInt8) : Value := .string ⟨l.toArray⟩
theorem str_size (l : List UInt8) : (ByteArray.mk l.toArray).size = l.length := by simp [ByteArray.size]
theorem str_toList (l : List UInt8) : (ByteArray.mk l.toArray).toList = l := by simp

/-- A pointer into a slice's array. -/
def ptA (A : Option Addr) (j : Nat) : Value := .pointer (A.map (·.add j))
def cellA (w : World) (A : Option Addr) (j : Nat) (v : Value) : Prop := ∃ ad, A = some ad ∧ w.cell? (ad.add j) = some v
/-- A slice reads as a list of cells. -/
def Rd (w : World) (A : Option Addr) (size n : Nat) (xs : List Value) : Prop :=
  xs.length = n * size ∧ (0 < xs.length → ∃ ad, A = some ad ∧ ∀ j u, xs[j]? = some u → w.cell? (ad.add j) = some u)

theorem add_add' (a : Addr) (i j : Nat) : (a.add i).add j = a.add (i + j) := by
  unfold Addr.add
  by_cases hi : i = 0 <;> by_cases hj : j = 0 <;> simp [hi, hj, Nat.add_assoc]
theorem add_zero' (a : Addr) : a.add 0 = a := rfl
theorem block_add (a : Addr) (n : Nat) : (a.add n).block = a.block := by unfold Addr.add; split <;> rfl

theorem Rd.cell {w : World} {A : Option Addr} {size n : Nat} {xs : List Value} (h : Rd w A size n xs) {j : Nat} {v : Value} (hj : xs[j]? = some v) : cellA w A j v := by
  have hlt : j < xs.length := (List.getElem?_eq_some_iff.1 hj).1
  obtain ⟨ad, h1, h2⟩ := h.2 (by omega)
  exact ⟨ad, h1, h2 j v hj⟩
theorem Rd.nil {w : World} {A : Option Addr} {size : Nat} : Rd w A size 0 [] := ⟨by simp, fun h => by simp at h⟩

/-- 's[k:]' keeps the old address where nothing is left of the capacity. -/
def cutA (A : Option Addr) (c k size : Nat) : Option Addr := if c = k then A else A.map (·.add (k * size))
theorem Rd.cut {w : World} {A : Option Addr} {size n c k m : Nat} {xs ys : List Value} (h : Rd w A size n xs) (hc : n ≤ c) (hk : k + m ≤ n) (hy : ys = (xs.drop (k * size)).take (m * size)) : Rd w (cutA A c k size) size m ys := by
  subst hy
  have hl : ((xs.drop (k * size)).take (m * size)).length = m * size := by
    rw [List.length_take, List.length_drop, h.1]
    have : k * size + m * size ≤ n * size := by rw [← Nat.add_mul]; exact Nat.mul_le_mul_right _ hk
    omega
  refine ⟨hl, fun h0 => ?_⟩
  have hm : 0 < m ∧ 0 < size := by
    rw [hl] at h0
    exact ⟨Nat.pos_of_mul_pos_right h0 |> fun _ => Nat.pos_of_ne_zero fun e => by simp [e] at h0, Nat.pos_of_ne_zero fun e => by simp [e] at h0⟩
  obtain ⟨ad, rfl, hcell⟩ := h.2 (by rw [h.1]; exact Nat.mul_pos (by omega) hm.2)
  refine ⟨ad.add (k * size), by unfold cutA; rw [if_neg (by omega)]; rfl, fun j u hu => ?_⟩
  rw [add_add']
  refine hcell _ u ?_
  rw [List.getElem?_take] at hu
  split at hu
  · rwa [List.getElem?_drop] at hu
  · cases hu

theorem Rd.of_row {w : World} {A : Option Addr} {c t size n : Nat} {xs : List Value} (h : w.ownsRow 0 t size (.slice A n c) n xs) : Rd w A size n xs := by
  refine ⟨h.1, fun hn => ?_⟩
  rcases h.2 with ⟨h2, rfl⟩ | ⟨g, cap, cur, hv, _⟩
  · have := h.1; simp at this; simp [this] at hn
  · have hA : A = some ⟨g, 0, none⟩ := by injection hv
    subst hA
    exact ⟨_, rfl, h.cells (g := g) rfl⟩
theorem Rd.of_blk {w : World} {g t size n : Nat} {l : List Value} (h : (blk g t l).holds w) (hl : l.length = n * size) : Rd w (some ⟨g, 0, none⟩) size n l := by
  refine ⟨hl, fun _ => ⟨_, rfl, fun j u hu => ?_⟩⟩
  have h1 : w.heap[g]? = some (.cells l.toArray t (0, 0)) := h
  unfold Addr.add
  split
  · rename_i hj
    subst hj
    simpa [World.cell?, h1] using hu
  · simpa [World.cell?, h1] using hu

section
variable {P : Program} {N : Nat} {C : Cx} {Q : Exit → Act → World → Prop} {e e' : Env} {hs hs' : List Chunk} {I J : World → Prop}
variable {d : Option Tmp} {ty : TypeId} {pos : String} {af : Array Edge} {gd : Option (Nat × Bool)}

theorem Hb.has {w : World} {c : Chunk} (h : Hb C w hs I) (hc : Has hs c) : c.holds w := h.hp.hold c hc
theorem blk_cell {w : World} {g t : Nat} {l : List Value} (h : (blk g t l).holds w) {j : Nat} {v : Value} (hj : l[j]? = some v) : w.cell? ⟨g, j, none⟩ = some v := by
  have h1 : w.heap[g]? = some (.cells l.toArray t (0, 0)) := h
  simpa [World.cell?, h1] using hj

/-! strings -/
section
variable {x y : Operand} {tx tyy : TypeId} {l m : List UInt8}
theorem R.eqs (hx : EV e x (str l)) (hy : EV e y (str m)) : Run P N C e hs I ⟨d, .binOp .eql tx x y tyy, ty, pos, af, gd⟩ (.bool (decide (l = m))) := fun a w hf _ => by
  have hb : (l == m) = decide (l = m) := by by_cases h : l = m <;> simp [h]
  simp [execOp, eqGuard, binOp, Op.stringOp, hf.ev hx, hf.ev hy, hb]
theorem R.nes (hx : EV e x (str l)) (hy : EV e y (str m)) : Run P N C e hs I ⟨d, .binOp .neq tx x y tyy, ty, pos, af, gd⟩ (.bool (decide (l ≠ m))) := fun a w hf _ => by
  have hb : (l == m) = decide (l = m) := by by_cases h : l = m <;> simp [h]
  simp [execOp, eqGuard, binOp, Op.stringOp, hf.ev hx, hf.ev hy, hb]
theorem R.cat (hx : EV e x (str l)) (hy : EV e y (str m)) (h : l.length + m.length ≤ 9223372036854775807) : Run P N C e hs I ⟨d, .binOp .add tx x y tyy, ty, pos, af, gd⟩ (str (l ++ m)) := fun a w hf _ => by
  have h1 : ¬ ((ByteArray.mk l.toArray).size : Int) + ((ByteArray.mk m.toArray).size : Int) > IntKind.i64.max := by
    rw [str_size, str_size]
    have : IntKind.i64.max = 9223372036854775807 := by decide
    omega
  have h2 : ByteArray.mk l.toArray ++ ByteArray.mk m.toArray = ByteArray.mk (l ++ m).toArray := by
    apply ByteArray.ext
    simp
  simp only [execOp, eqGuard, binOp, hf.ev hx, hf.ev hy, Op.stringOp, Sem.run_bind, Sem.run_pure, Int.natCast_add]
  rw [if_neg h1, h2]
  rfl
def tStr (P : Program) (t : TypeId) : Bool := match P.underlying t with | some .string => true | _ => false
theorem tStr_spec {t : TypeId} (h : tStr P t = true) : P.underlying t = some .string := by
  unfold tStr at h
  split at h
  · assumption
  · cases h
theorem R.lens {t : TypeId} (ht : tStr P t = true) (hx : EV e x (str l)) : Run P N C e hs I ⟨d, .call ⟨.builtin .len, #[x], #[t]⟩, ty, pos, af, gd⟩ (.int .i64 l.length) := fun a w hf _ => by
  simp [execOp, resolve, invoke, builtin, Builtin.len_, run_underlying (tStr_spec ht), hf.ev hx, goInt, str_size]
theorem R.lenl {t el s : TypeId} {A : Option Addr} {n c : Nat} (ht : tSl P t el s = true) (hx : EV e x (.slice A n c)) : Run P N C e hs I ⟨d, .call ⟨.builtin .len, #[x], #[t]⟩, ty, pos, af, gd⟩ (.int .i64 n) := fun a w hf _ => by
  simp [execOp, resolve, invoke, builtin, Builtin.len_, run_underlying (tSl_spec ht).1, hf.ev hx, goInt]
theorem R.ixs {k : IntKind} {i : Int} {j : Nat} {b : UInt8} (ht : tStr P tx = true) (hx : EV e x (str l)) (hy : EV e y (.int k i)) (hij : i = (j : Int)) (hb : l[j]? = some b) :
    Run P N C e hs I ⟨d, .index tx x y, ty, pos, af, gd⟩ (.int .u8 (b.toNat : Int)) := fun a w hf _ => by
  subst hij
  have hlt := (List.getElem?_eq_some_iff.1 hb).1
  have h1 : (ByteArray.mk l.toArray)[j]? = some b := by
    have h2 : j < (ByteArray.mk l.toArray).size := by rw [str_size]; exact hlt
    rw [getElem?_pos (ByteArray.mk l.toArray) j h2]
    have := (List.getElem?_eq_some_iff.1 hb).2
    simp [← this]
    rfl
  simp [execOp, Instr.index, asIntOf, run_underlying (tStr_spec ht), hf.ev hx, hf.ev hy, h1]
end

/-- A slice's bound. -/
inductive Bnd (e : Env) (dflt : Nat) : Option Operand → Nat → Prop
  | no : Bnd e dflt none dflt
  | yes {o : Operand} {k : IntKind} {m : Int} {n : Nat} : EV e o (.int k m) → m = (n : Int) → Bnd e dflt (some o) n


theorem run_bound {n top : Nat} {k : IntKind} (hn : n ≤ top) (code : BoundsCode) (w : World) : (Instr.sliceBound (.int k (n : Int)) top code).run P w = .ok n w := by
  have h1 : (n : Int) ≤ (top : Int) := by omega
  simp [Instr.sliceBound, asIntOf, h1]
theorem run_bounds {is : Bool} {len cap a b : Nat} {lo hi : Option Operand} {A : Act} (hlo : Bnd e 0 lo a) (hhi : Bnd e len hi b) (hf : Fr A N e) (hab : a ≤ b) (hb : b ≤ cap) (w : World) :
    (Instr.sliceBounds is len cap (lo.map A.eval) (hi.map A.eval) none).run P w = .ok (a, b, cap) w := by
  unfold Instr.sliceBounds
  cases hhi with
  | no =>
    cases hlo with
    | no => simp
    | yes h1 h2 => subst h2; simp [hf.ev h1, run_bound hab]
  | yes h3 h4 =>
    subst h4
    cases hlo with
    | no => simp [hf.ev h3, run_bound hb]
    | yes h1 h2 => subst h2; simp [hf.ev h1, hf.ev h3, run_bound hb, run_bound hab]
theorem R.sls {tx : TypeId} {x : Operand} {l r : List UInt8} {lo hi : Option Operand} {a b : Nat} (ht : tStr P tx = true) (hx : EV e x (str l)) (hlo : Bnd e 0 lo a) (hhi : Bnd e l.length hi b) (hab : a ≤ b) (hb : b ≤ l.length)
    (hr : (l.drop a).take (b - a) = r) : Run P N C e hs I ⟨d, .slice tx x lo hi none, ty, pos, af, gd⟩ (str r) := fun A w hf _ => by
  subst hr
  have h1 := run_bounds (P := P) (is := false) (cap := l.length) hlo hhi hf hab hb w
  have h2 : ByteArray.extract ⟨l.toArray⟩ a b = ⟨((l.drop a).take (b - a)).toArray⟩ := by
    apply ByteArray.ext
    rw [ByteArray.data_extract]
    apply Array.ext'
    simp
  have hu := tStr_spec ht
  simp [execOp, Instr.sliceAt, Instr.slice, run_underlying hu, hf.ev hx, str_size, h1, h2]
theorem R.sll {tx el s : TypeId} {x : Operand} {Ad : Option Addr} {n c : Nat} {lo hi : Option Operand} {a b : Nat} (ht : tSl P tx el s = true) (hx : EV e x (.slice Ad n c)) (hlo : Bnd e 0 lo a) (hhi : Bnd e n hi b) (hab : a ≤ b) (hb : b ≤ c) :
    Run P N C e hs I ⟨d, .slice tx x lo hi none, ty, pos, af, gd⟩ (.slice (cutA Ad c a s) (b - a) (c - a)) := fun A w hf _ => by
  have h1 := run_bounds (P := P) (is := true) (cap := c) hlo hhi hf hab hb w
  have hu := (tSl_spec ht).1
  simp [execOp, Instr.sliceAt, Instr.slice, run_underlying hu, hf.ev hx, h1, run_sizeOf' (tSl_spec ht).2, cutA]

/-! addresses -/
theorem R.ixa {tx el s : TypeId} {x y : Operand} {Ad : Option Addr} {n c j : Nat} {k : IntKind} {i : Int} (ht : tSl P tx el s = true) (hx : EV e x (.slice Ad n c)) (hy : EV e y (.int k i)) (hij : i = (j : Int)) (hj : j < n)
    (hA : ∀ w, Hb C w hs I → Ad ≠ none) : Run P N C e hs I ⟨d, .indexAddr tx x y, ty, pos, af, gd⟩ (ptA Ad (j * s)) := fun A w hf hb => by
  subst hij
  have hu := (tSl_spec ht).1
  cases Ad with
  | none => exact absurd rfl (hA w hb)
  | some ad => simp [execOp, Instr.indexAt, asIntOf, run_underlying hu, hf.ev hx, hf.ev hy, hj, run_sizeOf' (tSl_spec ht).2, ptA]
theorem Rd.ne {w : World} {A : Option Addr} {size n : Nat} {xs : List Value} (h : Rd w A size n xs) (hn : 0 < xs.length) : A ≠ none := by
  obtain ⟨ad, rfl, _⟩ := h.2 hn
  simp
theorem run_fieldAt {s f o : Nat} (h : tFo P s f o = true) (a : Addr) (w : World) : (Instr.fieldAt s (.pointer (some a)) f).run P w = .ok (.pointer (some (a.add o))) w := by
  obtain ⟨fs, x, i, h1, h2, h3, h4, h5⟩ := tFo_spec h
  simp [Instr.fieldAt, run_underlying h1, h2, Instr.sureAddr, fieldPlace, sizeOf, typeInfo, h3, h4, h5]
/-- a field of what a pointer points to, at a block's own place -/
theorem R.fa {s f o g : Nat} {x : Operand} (ht : tFo P s f o = true) (hx : EV e x (.pointer (some ⟨g, 0, none⟩))) : Run P N C e hs I ⟨d, .fieldAddr s x f, ty, pos, af, gd⟩ (.pointer (some ⟨g, o, none⟩)) := fun A w hf _ => by
  have : (⟨g, 0, none⟩ : Addr).add o = ⟨g, o, none⟩ := by unfold Addr.add; split <;> simp_all
  simp [execOp, hf.ev hx, run_fieldAt ht, this]
theorem R.fao {s f o g j k : Nat} {x : Operand} (ht : tFo P s f o = true) (hx : EV e x (.pointer (some ⟨g, j, none⟩))) (hk : j + o = k) : Run P N C e hs I ⟨d, .fieldAddr s x f, ty, pos, af, gd⟩ (.pointer (some ⟨g, k, none⟩)) := fun A w hf _ => by
  subst hk
  have : (⟨g, j, none⟩ : Addr).add o = ⟨g, j + o, none⟩ := by unfold Addr.add; split <;> simp_all
  simp [execOp, hf.ev hx, run_fieldAt ht, this]
/-- a field of a slice's element -/
theorem R.fap {s f o j : Nat} {x : Operand} {Ad : Option Addr} (ht : tFo P s f o = true) (hx : EV e x (ptA Ad j)) (hA : ∀ w, Hb C w hs I → Ad ≠ none) : Run P N C e hs I ⟨d, .fieldAddr s x f, ty, pos, af, gd⟩ (ptA Ad (j + o)) := fun A w hf hb => by
  cases Ad with
  | none => exact absurd rfl (hA w hb)
  | some ad =>
    have h1 : A.eval x = .pointer (some (ad.add j)) := hf.ev hx
    simp [execOp, h1, run_fieldAt ht, ptA, add_add']
theorem R.ncA {x : Operand} {Ad : Option Addr} {j : Nat} (hx : EV e x (ptA Ad j)) (hA : ∀ w, Hb C w hs I → Ad ≠ none) : Run P N C e hs I ⟨d, .nilCheck x, ty, pos, af, gd⟩ (ptA Ad j) := fun a w hf hb => by
  cases Ad with
  | none => exact absurd rfl (hA w hb)
  | some ad =>
    have h1 : a.eval x = .pointer (some (ad.add j)) := hf.ev hx
    simp [execOp, h1, ptA]

/-! loads -/
theorem run_loadVar_sc {t : TypeId} {a : Addr} {v : Value} {w : World} (ht : tSc P t = true) (hc : w.cell? a = some v) : (loadVar t a).run P w = .ok v w := by
  simp [loadVar, tSc_spec ht, hc]
theorem run_loadCellsFrom' {a : Addr} {w : World} : ∀ (vs : List Value) (i : Nat) (acc : Array Value), (∀ j v, vs[j]? = some v → w.cell? (a.add (i + j)) = some v) →
    (loadCellsFrom a i vs.length acc).run P w = .ok (acc ++ vs.toArray) w
  | [], _, acc, _ => by simp [loadCellsFrom]
  | v :: r, i, acc, h => by
    have h0 := h 0 v rfl
    have ih := run_loadCellsFrom' r (i + 1) (acc.push v) (fun j u hj => by
      have := h (j + 1) u (by simpa using hj)
      rwa [show i + (j + 1) = i + 1 + j by omega] at this)
    simp only [Nat.add_zero] at h0
    simp only [List.length_cons, loadCellsFrom, Sem.run_bind, run_load, h0, Result.andThen_ok, ih]
    simp
theorem run_loadVar_ag {t : TypeId} {a : Addr} {vs : List Value} {w : World} (ht : tAg P t vs.length = true) (hc : ∀ j v, vs[j]? = some v → w.cell? (a.add j) = some v) : (loadVar t a).run P w = .ok (.agg vs.toArray) w := by
  obtain ⟨h1, i, hi, hs⟩ := tAg_spec ht
  have := run_loadCellsFrom' (P := P) (a := a) (w := w) vs 0 #[] (fun j v hj => by simpa using hc j v hj)
  simp [loadVar, h1, sizeOf, typeInfo, hi, hs, loadCells, this]
theorem R.ld {t g tb o : Nat} {x : Operand} {l : List Value} {v : Value} (ht : tSc P t = true) (hx : EV e x (.pointer (some ⟨g, o, none⟩))) (hc : Has hs (blk g tb l)) (hl : l[o]? = some v) :
    Run P N C e hs I ⟨d, .load t x, ty, pos, af, gd⟩ v := fun A w hf hb => by
  have h1 := blk_cell (hb.has hc) hl
  simp [execOp, hf.ev hx, Instr.loadAt, Instr.sureAddr, run_loadVar_sc ht h1]
theorem R.lda {t g tb o n : Nat} {x : Operand} {l vs : List Value} (ht : tAg P t n = true) (hx : EV e x (.pointer (some ⟨g, o, none⟩))) (hc : Has hs (blk g tb l)) (hl : LGet l o n vs) :
    Run P N C e hs I ⟨d, .load t x, ty, pos, af, gd⟩ (.agg vs.toArray) := fun A w hf hb => by
  have h1 := hl.spec
  have h2 := hb.has hc
  have h3 : (loadVar t ⟨g, o, none⟩).run P w = .ok (.agg vs.toArray) w := run_loadVar_ag (by rw [h1.1]; exact ht) fun j v hj => by
    have h4 := blk_cell h2 (h1.2 j v hj)
    unfold Addr.add
    split
    · rename_i h5; subst h5; simpa using h4
    · exact h4
  simp [execOp, hf.ev hx, Instr.loadAt, Instr.sureAddr, h3]
/-- a load from what a slice holds, by a fact -/
theorem R.ldp {t j : Nat} {x : Operand} {Ad : Option Addr} {v : Value} (ht : tSc P t = true) (hx : EV e x (ptA Ad j)) (hc : ∀ w, Hb C w hs I → cellA w Ad j v) : Run P N C e hs I ⟨d, .load t x, ty, pos, af, gd⟩ v := fun A w hf hb => by
  obtain ⟨ad, rfl, h1⟩ := hc w hb
  have h2 : A.eval x = .pointer (some (ad.add j)) := hf.ev hx
  simp [execOp, h2, Instr.loadAt, Instr.sureAddr, run_loadVar_sc ht h1]
theorem R.ldpa {t j n : Nat} {x : Operand} {Ad : Option Addr} {vs : List Value} (ht : tAg P t n = true) (hn : vs.length = n) (hx : EV e x (ptA Ad j)) (hA : ∀ w, Hb C w hs I → Ad ≠ none) (hc : ∀ w, Hb C w hs I → ∀ i v, vs[i]? = some v → cellA w Ad (j + i) v) :
    Run P N C e hs I ⟨d, .load t x, ty, pos, af, gd⟩ (.agg vs.toArray) := fun A w hf hb => by
  cases Ad with
  | none => exact absurd rfl (hA w hb)
  | some ad =>
    have h2 : A.eval x = .pointer (some (ad.add j)) := hf.ev hx
    have h3 : (loadVar t (ad.add j)).run P w = .ok (.agg vs.toArray) w := run_loadVar_ag (by rw [hn]; exact ht) fun i v hi => by
      obtain ⟨ad', h4, h5⟩ := hc w hb i v hi
      injection h4 with h4
      subst h4
      rw [add_add']
      exact h5
    simp [execOp, h2, Instr.loadAt, Instr.sureAddr, h3]
/-- a load of a variable, or of any cell, by a fact -/
theorem R.ldf {t : Nat} {x : Operand} {a : Addr} {v : Value} (ht : tSc P t = true) (hx : EV e x (.pointer (some a))) (hc : ∀ w, Hb C w hs I → w.cell? a = some v) : Run P N C e hs I ⟨d, .load t x, ty, pos, af, gd⟩ v := fun A w hf hb => by
  simp [execOp, hf.ev hx, Instr.loadAt, Instr.sureAddr, run_loadVar_sc ht (hc w hb)]

/-! interfaces -/
theorem R.mi {t : TypeId} {x : Operand} {v : Value} {ds : TypeDesc} (ht : P.underlying t = some ds) (hni : ∀ m, ds ≠ .interface m) (hx : EV e x v) : Run P N C e hs I ⟨d, .makeInterface t x, ty, pos, af, gd⟩ (.iface t v) := fun A w hf _ => by
  have h1 := hf.ev hx
  cases ds <;> first | (exact absurd rfl (hni _)) | simp [execOp, Instr.makeInterface, run_underlying ht, h1]

/-! composite values -/
inductive Fill (P : Program) (s : Nat) : List Value → List (Nat × Value) → List Value → Prop
  | nil {z : List Value} : Fill P s z [] z
  | cons {z z1 z2 : List Value} {f o : Nat} {v : Value} {vs : List Value} {r : List (Nat × Value)} : tFo P s f o = true → v.cells = vs.toArray → LPut z o vs z1 → Fill P s z1 r z2 → Fill P s z ((f, v) :: r) z2
end
end Go.Eng

/-
  The engine's operations that turn memory.
-/
namespace Go.Eng
open Go Go.RowKit

section
variable {P : Program} {N : Nat} {C : Cx} {Q : Exit → Act → World → Prop} {e e' : Env} {hs hs' : List Chunk} {I J : World → Prop}
variable {d : Tmp} {ty : TypeId} {pos : String} {af : Array Edge} {ops : Array Oper} {rest : List Oper}

theorem wl_step {o : Oper} {v : Value} {w w' : World} {a : Act} (hg : o.guard = none) (hr : (execOp a.eval o).run P w = .ok (.value v) w') (h : wpList P ops Q rest (a.put o.dst v) w') : wpList P ops Q (o :: rest) a w := by
  refine wpList_plain hg fun K hK => ?_
  unfold Oper.wp
  rw [hr]
  exact hK _ _ h
theorem wl_skip {o : Oper} {w w' : World} {a : Act} (hg : o.guard = none) (hd : o.dst = none) (hr : (execOp a.eval o).run P w = .ok .skip w') (h : wpList P ops Q rest a w') : wpList P ops Q (o :: rest) a w := by
  refine wpList_plain hg fun K hK => ?_
  unfold Oper.wp
  rw [hr]
  have : a.put o.dst undef = a := by rw [hd]; rfl
  exact hK _ _ (by rw [this]; exact h)

/-- A new block. -/
theorem WL.alloc {t : Nat} {z : List Value} (hz : tZ P t z) (hfr : fresh N e d = true)
    (h : ∀ g, WL P N C ops rest Q ((d, .pointer (some ⟨g, 0, none⟩)) :: e) (blk g t z :: hs) I) : WL P N C ops (⟨some d, .alloc t, ty, pos, af, none⟩ :: rest) Q e hs I := by
  intro a w hf hb
  obtain ⟨i, v, h1, h2, h3⟩ := hz
  have hr : (execOp a.eval ⟨some d, .alloc t, ty, pos, af, none⟩).run P w = .ok (.value (.pointer (some ⟨w.heap.size, 0, none⟩))) (w.alloc (.cells z.toArray t)) := by
    simp [execOp, Instr.alloc, zeroValue, typeInfo, h1, h2, newVar, newRow, h3]
  exact wl_step rfl hr (h w.heap.size _ _ (hf.put hfr) (hb.alloc _))
/-- the same where the slot is a variable's -/
theorem WL.allocv {t : Nat} {z : List Value} (hz : tZ P t z) (hN : inN N d = true) (hu : ∀ g, Upd e d (.pointer (some ⟨g, 0, none⟩)) (e.map fun p => if p.1 = d then (d, .pointer (some ⟨g, 0, none⟩)) else p))
    (h : ∀ g, WL P N C ops rest Q (e.map fun p => if p.1 = d then (d, .pointer (some ⟨g, 0, none⟩)) else p) (blk g t z :: hs) I) : WL P N C ops (⟨some d, .alloc t, ty, pos, af, none⟩ :: rest) Q e hs I := by
  intro a w hf hb
  obtain ⟨i, v, h1, h2, h3⟩ := hz
  have hr : (execOp a.eval ⟨some d, .alloc t, ty, pos, af, none⟩).run P w = .ok (.value (.pointer (some ⟨w.heap.size, 0, none⟩))) (w.alloc (.cells z.toArray t)) := by
    simp [execOp, Instr.alloc, zeroValue, typeInfo, h1, h2, newVar, newRow, h3]
  exact wl_step rfl hr (h w.heap.size _ _ (hf.upd (hu _) hN) (hb.alloc _))
/-- A value in a block of its own. -/
theorem WL.box {t : Nat} {x : Operand} {v : Value} {l : List Value} (hx : EV e x v) (hl : v.cells = l.toArray) (hfr : fresh N e d = true)
    (h : ∀ g, WL P N C ops rest Q ((d, .pointer (some ⟨g, 0, none⟩)) :: e) (blk g t l :: hs) I) : WL P N C ops (⟨some d, .box t x, ty, pos, af, none⟩ :: rest) Q e hs I := by
  intro a w hf hb
  have hr : (execOp a.eval ⟨some d, .box t x, ty, pos, af, none⟩).run P w = .ok (.value (.pointer (some ⟨w.heap.size, 0, none⟩))) (w.alloc (.cells l.toArray t)) := by
    simp [execOp, Instr.box, newVar, newRow, hf.ev hx, hl]
  exact wl_step rfl hr (h w.heap.size _ _ (hf.put hfr) (hb.alloc _))

theorem ext_setRow {w : World} {g t : Nat} {l : List Value} {l' : Array Value} (_h : (blk g t l).holds w) : Ext (fun _ => False) [blk g t l] w (w.setRow g l') := by
  refine ⟨rfl, rfl, rfl, by simp [World.setRow], fun k _ _ hf => ?_⟩
  have : k ≠ g := fun e => hf (blk g t l) (by simp) (by rw [e]; rfl)
  simp only [World.setRow, Array.getElem?_modify]
  rw [if_neg (fun e => this e.symm)]
theorem setRow_holds {w : World} {g t : Nat} {l l' : List Value} (h : (blk g t l).holds w) : (blk g t l').holds (w.setRow g l'.toArray) := by
  have h1 : w.heap[g]? = some (.cells l.toArray t (0, 0)) := h
  show (w.setRow g l'.toArray).heap[g]? = _
  simp [World.setRow, Array.getElem?_modify, h1]

def oneCells (vs : List Value) : Bool := vs.all (·.oneCell')
/-- A store into a block that is known whole. -/
theorem WL.sto {t g tb o n : Nat} {x y : Operand} {v : Value} {vs l l' : List Value} (ht : tSz P t n = true) (hx : EV e x (.pointer (some ⟨g, o, none⟩))) (hy : EV e y v) (hv : v.cells = vs.toArray) (hn : vs.length = n) (h1 : oneCells vs = true)
    (hc : Cup hs (blk g tb l) (blk g tb l') hs') (hp : LPut l o vs l')
    (h : WL P N C ops rest Q e hs' I) : WL P N C ops (⟨none, .store t x y, ty, pos, af, none⟩ :: rest) Q e hs I := by
  intro a w hf hb
  have hh := hb.hp.hold _ hc.mem
  have hg : w.heap[g]? = some (.cells l.toArray tb (0, 0)) := hh
  have hs1 := hp.spec
  have hr0 := run_storeCells_at (P := P) g o tb vs 0 l.toArray w hg (by simpa using hs1.1) (fun u hu => by simpa using List.all_eq_true.1 h1 u hu)
  have hr : (execOp a.eval ⟨none, .store t x y, ty, pos, af, none⟩).run P w = .ok .skip (w.setRow g l'.toArray) := by
    have hl' : (List.take (o + 0) l.toArray.toList ++ vs ++ List.drop (o + 0 + vs.length) l.toArray.toList) = l' := by simpa using hs1.2.symm
    rw [hl'] at hr0
    simp [execOp, hf.ev hx, hf.ev hy, Instr.storeAt, Instr.sureAddr, storeVar, run_sizeOf' ht, hv, hn, hr0]
  exact wl_skip rfl rfl hr (h _ _ hf (hb.turn hc (ext_setRow hh) (setRow_holds hh) (fun _ hg => .inl hg)))

/-- 'append(s, x)' lays x in a block of its own. -/
theorem WL.bs1 {t el n : Nat} {x : Operand} {v : Value} {l z : List Value} (ht : tSl P t el n = true) (hz : tZ P el z) (hzn : z.length = n) (h0 : n ≠ 0) (hsm : n ≤ 16777216) (hx : EV e x v) (hl : v.cells = l.toArray) (hn : l.length = n) (hfr : fresh N e d = true)
    (h : ∀ g, WL P N C ops rest Q ((d, .slice (some ⟨g, 0, none⟩) 1 1) :: e) (blk g el l :: hs) I) :
    WL P N C ops (⟨some d, .buildSlice t 1 #[(0, x)], ty, pos, af, none⟩ :: rest) Q e hs I := by
  intro a w hf hb
  obtain ⟨i, zv, h1, h2, h3⟩ := hz
  have hu := (tSl_spec ht).1
  have hsz := run_sizeOf' (tSl_spec ht).2 w
  have hfill : Instr.fill (fun i => some (i * n, n)) ((Array.range (1 * n)).map (z.toArray[· % z.toArray.size]!)) [(0, v)] = some l.toArray := by
    unfold Instr.fill
    simp only [hl, Nat.zero_mul, Nat.zero_add]
    have h4 : l.toArray.size = n := by simpa using hn
    have h5 : ((Array.range (1 * n)).map (z.toArray[· % z.toArray.size]!)).size = n := by simp
    rw [if_neg (by rw [h4, h5]; simp)]
    unfold Instr.fill
    congr 1
    apply Array.ext'
    have key : ∀ (vs : List Value) (k : Nat) (cs : Array Value), k + vs.length ≤ cs.size → ((vs.zipIdx k).foldl (fun cs (p : Value × Nat) => cs.setIfInBounds p.2 p.1) cs).toList = cs.toList.take k ++ vs ++ cs.toList.drop (k + vs.length) := by
      intro vs
      induction vs with
      | nil => intro k cs _; simp
      | cons v r ih =>
        intro k cs hk
        simp only [List.length_cons] at hk
        simp only [List.zipIdx_cons, List.foldl_cons]
        rw [ih (k + 1) _ (by simp; omega)]
        have hkl : k < cs.toList.length := by simp; omega
        simp only [Array.toList_setIfInBounds]
        rw [List.take_set, List.drop_set_of_lt (by omega)]
        rw [List.set_eq_take_append_cons_drop, if_pos (by simp; omega)]
        simp only [List.take_take, List.length_cons]
        rw [Nat.min_eq_left (by omega), List.drop_take]
        simp [show k + 1 + r.length = k + (r.length + 1) by omega]
    have := key l 0 _ (by rw [h5, hn]; omega)
    have h6 : List.drop n (List.map (fun x => z[x % z.length]?.getD default) (List.range n)) = [] := List.drop_eq_nil_of_le (by simp)
    simpa [hn, h5, h6] using this
  have hr : (execOp a.eval ⟨some d, .buildSlice t 1 #[(0, x)], ty, pos, af, none⟩).run P w = .ok (.value (.slice (some ⟨w.heap.size, 0, none⟩) 1 1)) (w.alloc (.cells l.toArray el)) := by
    have hbig : ¬ 1 * n > 2 ^ 24 := by omega
    simp [execOp, Instr.buildSlice, run_underlying hu, hsz, hf.ev hx, zeroValue, typeInfo, h1, h2, h3, h0, newRow]
    simp at hfill
    rw [if_neg (by omega), hfill]
    simp
  exact wl_step rfl hr (h w.heap.size _ _ (hf.put hfr) (hb.alloc _))


/-- 'append(s, ..)' on a row of the call's own. -/
theorem WL.app {t el size bytes : Nat} {x y : Operand} {i0 : TypeInfo} {z : Value} {A A2 : Option Addr} {n c m c2 : Nat} {xs news : List Value} {hsF : Option Addr → Nat → List Chunk}
    (ht : P.underlying t = some (.slice el)) (hi : P.info? el = some i0) (hz : i0.zero = some z) (hsz : i0.size = size) (hby : i0.bytes = bytes) (hzs : z.cells.size = size) (h0 : 0 < size)
    (hx : EV e x (.slice A n c)) (hy : EV e y (.slice A2 m c2)) (hrow : ∀ A' c', Cup hs (.row (.slice A n c) el size n xs) (.row (.slice A' (n + m) c') el size (n + m) (xs ++ news)) (hsF A' c'))
    (hsrc : ∀ w, Hb C w hs I → Rd w A2 size m news) (h1 : oneCells news = true) (h63 : n + m ≤ maxLen) (hbytes : (n + m) * bytes ≤ 140737488355328) (hfr : fresh N e d = true)
    (h : ∀ A' c', WL P N C ops rest Q ((d, .slice A' (n + m) c') :: e) (hsF A' c') I) :
    WL P N C ops (⟨some d, .call ⟨.builtin .append, #[x, y], #[t, t]⟩, ty, pos, af, none⟩ :: rest) Q e hs I := by
  intro a w hf hb
  have hh : w.ownsRow 0 el size (.slice A n c) n xs := hb.hp.hold _ (hrow none 0).mem
  have hs1 := hsrc w hb
  have hone : ∀ u ∈ news, u.oneCell' = true := fun u hu => by simpa using List.all_eq_true.1 h1 u hu
  -- what the run comes to
  have hrun : ∃ A' c' w', (Builtin.append_ #[t, t] ty #[.slice A n c, .slice A2 m c2]).run P w = .ok (.slice A' (n + m) c') w' ∧ w'.ownsRow 0 el size (.slice A' (n + m) c') (n + m) (xs ++ news) ∧
      w.grownBy w' (Value.slice A n c).ownBlock ∧ ((Value.slice A' (n + m) c').ownBlock = (Value.slice A n c).ownBlock ∨ (Value.slice A' (n + m) c').ownBlock = some w.heap.size) := by
    rcases A2 with _ | ad
    · have hm : news = [] := by
        rcases List.eq_nil_or_concat news with h2 | h2
        · exact h2
        · obtain ⟨l, b, rfl⟩ := h2
          obtain ⟨ad, h3, _⟩ := hs1.2 (by simp)
          cases h3
      subst hm
      have hm0 : m = 0 := by
        have := hs1.1
        rcases Nat.eq_zero_or_pos m with h2 | h2
        · exact h2
        · have h7 : 0 < m * size := Nat.mul_pos h2 h0
          rw [← this] at h7
          simp at h7
      subst hm0
      refine ⟨A, c, w, ?_, by simpa using hh, World.grownBy.refl w _, .inl rfl⟩
      rcases hh.2 with ⟨h2, h3⟩ | ⟨g, cap, cur, h2, _, _, hnc, _⟩
      · injection h2 with h4 h5 h6
        subst h4 h5 h6
        simp [Builtin.append_, run_underlying ht, sizeOf, typeInfo, hi, Builtin.lenOf, Builtin.firstCells]
      · injection h2 with h4 h5 h6
        subst h4 h6
        simp [Builtin.append_, run_underlying ht, sizeOf, typeInfo, hi, Builtin.lenOf, Builtin.firstCells, hnc, storeCells]
    · obtain ⟨v', w', hr, h2, h3, _, h5⟩ := run_append_own_at (P := P) w 0 t ty el i0 z size bytes ht hi hz hsz hby hzs h0 (.slice A n c) n xs hh ad m c2 news hs1.1 (fun j u hu => by
        obtain ⟨ad', h6, h7⟩ := hs1.cell hu
        injection h6 with h6
        subst h6
        exact h7) hone h63 hbytes (Nat.zero_le _)
      rcases h2.2 with ⟨rfl, h6⟩ | ⟨g, cap, cur, rfl, _⟩
      · have hn0 : n + m = 0 := h6
        exact ⟨none, 0, w', by rw [hn0]; exact hr, by rw [hn0]; rw [hn0] at h2; exact h2, h3, by rw [hn0]; exact h5⟩
      · exact ⟨_, cap, w', hr, h2, h3, h5⟩
  obtain ⟨A', c', w', hr0, h2, h3, h4⟩ := hrun
  have hr : (execOp a.eval ⟨some d, .call ⟨.builtin .append, #[x, y], #[t, t]⟩, ty, pos, af, none⟩).run P w = .ok (.value (.slice A' (n + m) c')) w' := by
    simp [execOp, resolve, invoke, builtin, hf.ev hx, hf.ev hy, hr0]
  refine wl_step rfl hr (h A' c' _ _ (hf.put hfr) (hb.turn (hrow A' c') ⟨h3.os, h3.tape, h3.output, h3.size, fun k hk _ hfk => h3.block k hk fun e' => ?_⟩ h2 fun g hg => ?_))
  · exact hfk (.row (.slice A n c) el size n xs) (by simp) e'.symm
  · rcases h4 with h5 | h5
    · exact .inl (h5.symm.trans hg)
    · have : some w.heap.size = some g := h5.symm.trans hg
      injection this with this
      exact .inr (by omega)

/-! strings that are gone through -/
theorem WL.rng {t : TypeId} {x : Operand} {l : List UInt8} (ht : tStr P t = true) (hx : EV e x (str l)) (hfr : fresh N e d = true)
    (h : ∀ g, WL P N C ops rest Q ((d, .pointer (some ⟨g, 0, none⟩)) :: e) (.obj g (.stringIter ⟨l.toArray⟩ 0) :: hs) I) : WL P N C ops (⟨some d, .range t x, ty, pos, af, none⟩ :: rest) Q e hs I := by
  intro a w hf hb
  have hr : (execOp a.eval ⟨some d, .range t x, ty, pos, af, none⟩).run P w = .ok (.value (.pointer (some ⟨w.heap.size, 0, none⟩))) (w.alloc (.stringIter ⟨l.toArray⟩ 0)) := by
    simp [execOp, Instr.range, run_underlying (tStr_spec ht), hf.ev hx]
  exact wl_step rfl hr (h w.heap.size _ _ (hf.put hfr) (hb.alloc _))
end
end Go.Eng

/-
  A region that draws its order: heads that yield one value in whatever order, then a tail in order.
-/
namespace Go.Eng
open Go Go.RowKit

def looks (l : Array Oper) (o : Oper) : List Tmp := o.looksAt l

/-- The region's form: every edge points back; heads read only what heads ahead of them that they wait for have written, or nothing of the region's; no two heads write one slot; the tail waits for all heads, and is a chain. -/
def headOk (l : List Oper) (n : Nat) : Bool :=
  let ops := l.toArray
  Region.noSelect ops && decide (n ≤ ops.size)
  && ((List.range ops.size).all fun i => match ops[i]? with | some o => o.after.all fun e => !Region.binds .any e || decide (e.on < i) | none => true)
  && ((List.range n).all fun i => match ops[i]? with
      | some oi => (List.range n).all fun j => match ops[j]? with
        | some oj => decide (i = j) || (match oj.dst with
          | some s => decide (oi.dst ≠ some s) && (!(oi.looksAt ops).contains s || (decide (j < i) && Region.waitsFor .any ops i j) || (decide (i < j) && Region.waitsFor .any ops j i))
          | none => true)
        | none => true
      | none => true)
  && (decide (n = ops.size) || (Region.sinkB .any ops n && Region.chainB .any ops n))

section
variable {P : Program} {N : Nat} {C : Cx} {Q : Exit → Act → World → Prop} {e : Env} {hs : List Chunk} {I : World → Prop}

/-- A head: in every world of the state it yields this value and leaves a world of the state. -/
def Head (P : Program) (N : Nat) (C : Cx) (ops : Array Oper) (e : Env) (hs : List Chunk) (I : World → Prop) (o : Oper) (v : Value) : Prop :=
  ∀ a, Fr a N e → (Region.wanted o (yielded ops a.tmps) = false ∧ v = undef) ∨
    (Region.wanted o (yielded ops a.tmps) = true ∧ ∀ w, Hb C w hs I →
      match (execOp a.eval o).run P w with
      | .ok (.value u) w' => u = v ∧ Hb C w' hs I
      | .ok (.enter f args) w' => Calls P f args w' fun x w'' => x = .returned v ∧ Hb C w'' hs I
      | _ => False)

def hasKey (e : Env) (d : Nat) : Bool := e.any fun p => Nat.beq p.1 d
def putE (e : Env) (d : Option Tmp) (v : Value) : Env := match d with
  | some d => if hasKey e d then e.map (fun p => if p.1 = d then (d, v) else p) else (d, v) :: e
  | none => e
def freshO (N : Nat) (_e : Env) (d : Option Tmp) : Bool := match d with | some d => inN N d | none => false
theorem putE_keys {e : Env} {d : Nat} {v : Value} (h : hasKey e d = true) : (putE e (some d) v).map (·.1) = e.map (·.1) := by
  simp only [putE, h, if_true, List.map_map]
  apply List.map_congr_left
  intro p _
  simp only [Function.comp]
  split
  · rename_i h; exact h.symm
  · rfl
theorem putE_fresh {N : Nat} {e : Env} {d : Nat} {v : Value} (h : fresh N e d = true) : putE e (some d) v = (d, v) :: e := by
  have : hasKey e d = false := by
    simp only [fresh, Bool.and_eq_true, List.all_eq_true] at h
    cases hb : hasKey e d with
    | false => rfl
    | true =>
      simp only [hasKey, List.any_eq_true] at hb
      obtain ⟨p, hp, h3⟩ := hb
      have := h.2 p hp
      rw [h3] at this
      cases this
  simp [putE, this]
theorem fresh_inN {N : Nat} {e : Env} {d : Nat} (h : fresh N e d = true) : inN N d = true := by
  simp only [fresh, Bool.and_eq_true] at h
  exact h.1
theorem Fr.putE {a : Act} {N : Nat} {e : Env} (h : Fr a N e) {d : Nat} {v : Value} (hN : inN N d = true) : Fr (a.put (some d) v) N (putE e (some d) v) := by
  by_cases hk : hasKey e d = true
  · have hlt : d < a.tmps.size := by rw [h.size]; simpa [inN, Nat.blt_eq] using hN
    refine ⟨by simp [Act.put, h.size], h.defers, ?_, by rw [putE_keys hk]; exact h.nd⟩
    intro p hp
    simp only [Eng.putE, hk, if_true, List.mem_map] at hp
    obtain ⟨q, hq, rfl⟩ := hp
    by_cases hqd : q.1 = d
    · rw [if_pos hqd]
      simp [Act.put, hlt]
    · rw [if_neg hqd]
      have := h.val q hq
      simp only [Act.put, Array.getD_eq_getD_getElem?] at this ⊢
      rw [Array.getElem?_setIfInBounds_ne (Ne.symm hqd)]
      exact this
  · have hf : fresh N e d = true := by
      simp only [fresh, Bool.and_eq_true]
      refine ⟨hN, ?_⟩
      simp only [hasKey, List.any_eq_true, not_exists, not_and] at hk
      simp only [List.all_eq_true]
      intro p hp
      have h2 := hk p hp
      cases hb : Nat.beq p.1 d with
      | false => rfl
      | true => exact absurd hb h2
    simp only [Eng.putE, hk]
    exact h.put hf

def HD (P : Program) (N : Nat) (C : Cx) (ops : Array Oper) (Q : Exit → Act → World → Prop) (tail : List Oper) (hs : List Chunk) (I : World → Prop) : List Oper → Env → Prop
  | [], e => WL P N C ops tail Q e hs I
  | o :: r, e => ∃ v, Head P N C ops e hs I o v ∧ freshO N e o.dst = true ∧ HD P N C ops Q tail hs I r (putE e o.dst v)

/-- The frame with the values of those heads that have been carried out. -/
def puts : List (Oper × Value) → (Nat → Bool) → Nat → Act → Act
  | [], _, _, a => a
  | (o, v) :: r, L, k, a => puts r L (k + 1) (if L k then a.put o.dst v else a)

theorem puts_size (hl : List (Oper × Value)) (L : Nat → Bool) : ∀ k a, (puts hl L k a).tmps.size = a.tmps.size ∧ (puts hl L k a).defers = a.defers := by
  induction hl with
  | nil => intro k a; exact ⟨rfl, rfl⟩
  | cons p r ih =>
    obtain ⟨o, v⟩ := p
    intro k a
    have h1 := ih (k + 1) (if L k then a.put o.dst v else a)
    unfold puts
    rw [h1.1, h1.2]
    by_cases h : L k = true
    · simp only [h, if_true]
      cases o.dst <;> simp [Act.put]
    · simp [h]

theorem puts_none (hl : List (Oper × Value)) (L : Nat → Bool) (s : Nat) : ∀ k a, (∀ j o v, hl[j]? = some (o, v) → L (k + j) = true → o.dst ≠ some s) → (puts hl L k a).tmps[s]? = a.tmps[s]? := by
  induction hl with
  | nil => intro k a _; rfl
  | cons p r ih =>
    obtain ⟨o, v⟩ := p
    intro k a h
    unfold puts
    rw [ih (k + 1) _ fun j o' v' hj hL => h (j + 1) o' v' (by simpa using hj) (by rwa [show k + (j + 1) = k + 1 + j by omega])]
    by_cases hk : L k = true
    · simp only [hk, if_true]
      have := h 0 o v rfl (by simpa using hk)
      cases hd : o.dst with
      | none => simp [Act.put]
      | some d =>
        have hne : d ≠ s := fun e => this (by rw [hd, e])
        simp [Act.put, Array.getElem?_setIfInBounds_ne hne]
    · simp [hk]

theorem puts_some (hl : List (Oper × Value)) (L : Nat → Bool) (s : Nat) : ∀ k a j o v, hl[j]? = some (o, v) → L (k + j) = true → o.dst = some s → s < a.tmps.size →
    (∀ i o' v', hl[i]? = some (o', v') → i ≠ j → o'.dst ≠ some s) → (puts hl L k a).tmps[s]? = some v := by
  induction hl with
  | nil => intro k a j o v hj; simp at hj
  | cons p r ih =>
    obtain ⟨o0, v0⟩ := p
    intro k a j o v hj hL hd hs hne
    unfold puts
    cases j with
    | zero =>
      simp only [List.getElem?_cons_zero, Option.some.injEq, Prod.mk.injEq] at hj
      obtain ⟨rfl, rfl⟩ := hj
      rw [puts_none r L s (k + 1) _ fun j o' v' hj' _ => hne (j + 1) o' v' (by simpa using hj') (by omega)]
      simp only [Nat.add_zero] at hL
      simp [hL, hd, Act.put, hs]
    | succ j =>
      refine ih (k + 1) _ j o v (by simpa using hj) (by rwa [show k + 1 + j = k + (j + 1) by omega]) hd ?_ fun i o' v' hi hij => hne (i + 1) o' v' (by simpa using hi) (by omega)
      by_cases hk : L k = true
      · simp only [hk, if_true]
        cases o0.dst <;> simpa [Act.put] using hs
      · simpa [hk] using hs

theorem puts_congr (hl : List (Oper × Value)) (L L' : Nat → Bool) : ∀ k a, (∀ j, j < hl.length → L (k + j) = L' (k + j)) → puts hl L k a = puts hl L' k a := by
  induction hl with
  | nil => intro k a _; rfl
  | cons p r ih =>
    obtain ⟨o, v⟩ := p
    intro k a h
    unfold puts
    have h0 := h 0 (by simp)
    simp only [Nat.add_zero] at h0
    rw [h0]
    exact ih _ _ fun j hj => by
      have := h (j + 1) (by simp; omega)
      rwa [show k + (j + 1) = k + 1 + j by omega] at this

theorem act_ext {a b : Act} (h1 : a.tmps.size = b.tmps.size) (h2 : a.defers = b.defers) (h3 : ∀ s : Nat, a.tmps[s]? = b.tmps[s]?) : a = b := by
  cases a with
  | mk at1 ad =>
    cases b with
    | mk bt bd =>
      simp only at h1 h2 h3
      subst h2
      congr 1
      exact Array.ext_getElem? h3

/-- Distinct slots. -/
def Distinct (hl : List (Oper × Value)) : Prop := ∀ (i j : Nat) (o : Oper) (v : Value) (o' : Oper) (v' : Value) (s : Nat), hl[i]? = some (o, v) → hl[j]? = some (o', v') → i ≠ j → o.dst = some s → o'.dst ≠ some s

theorem puts_step {hl : List (Oper × Value)} (hd : Distinct hl) {L : Nat → Bool} {i : Nat} {o : Oper} {v : Value} (hi : hl[i]? = some (o, v)) (hL : L i = false) (a : Act) :
    (puts hl L 0 a).put o.dst v = puts hl (fun j => L j || Nat.beq j i) 0 a := by
  refine act_ext ?_ ?_ fun s => ?_
  · rw [(puts_size hl _ 0 a).1]
    cases o.dst <;> simp [Act.put, (puts_size hl L 0 a).1]
  · rw [(puts_size hl _ 0 a).2]
    cases o.dst <;> simp [Act.put, (puts_size hl L 0 a).2]
  · by_cases hs : s < a.tmps.size
    · by_cases hex : ∃ j o' v', hl[j]? = some (o', v') ∧ o'.dst = some s ∧ (L j || Nat.beq j i) = true
      · obtain ⟨j, o', v', hj, hds, hLj⟩ := hex
        rw [puts_some hl _ s 0 a j o' v' hj (by simpa using hLj) hds hs fun k o2 v2 hk hkj hd2 => hd k j o2 v2 o' v' s hk hj hkj hd2 hds]
        by_cases hji : j = i
        · subst hji
          have : (o', v') = (o, v) := Option.some.inj (hj.symm.trans hi)
          injection this with h1 h2
          subst h1 h2
          have hlt : s < (puts hl L 0 a).tmps.size := by rw [(puts_size hl L 0 a).1]; exact hs
          simp [hds, Act.put, hlt]
        · have hLj' : L j = true := by simpa [hji] using hLj
          have hne : o.dst ≠ some s := hd j i o' v' o v s hj hi hji hds
          have h1 := puts_some hl L s 0 a j o' v' hj (by simpa using hLj') hds hs fun k o2 v2 hk hkj hd2 => hd k j o2 v2 o' v' s hk hj hkj hd2 hds
          cases hod : o.dst with
          | none => simpa [Act.put] using h1
          | some d =>
            have hne' : d ≠ s := fun e => hne (by rw [hod, e])
            simpa [Act.put, Array.getElem?_setIfInBounds_ne hne'] using h1
      · rw [puts_none hl _ s 0 a fun j o' v' hj hLj hds => hex ⟨j, o', v', hj, hds, by simpa using hLj⟩]
        have h1 := puts_none hl L s 0 a fun j o' v' hj hLj hds => hex ⟨j, o', v', hj, hds, by simp at hLj; simp [hLj]⟩
        cases hod : o.dst with
        | none => simpa [Act.put] using h1
        | some d =>
          have hne' : d ≠ s := fun e => hex ⟨i, o, v, hi, by rw [hod, e], by simp⟩
          simpa [Act.put, Array.getElem?_setIfInBounds_ne hne'] using h1
    · have h1 : ∀ b : Act, b.tmps.size = a.tmps.size → b.tmps[s]? = none := fun b hb => Array.getElem?_eq_none (by omega)
      rw [h1 _ (by cases o.dst <;> simp [Act.put, (puts_size hl L 0 a).1]), h1 _ (puts_size hl _ 0 a).1]

def envs (hl : List (Oper × Value)) (i : Nat) (e : Env) : Env := (hl.take i).foldl (fun e p => putE e p.1.dst p.2) e

theorem HD.unroll {ops : Array Oper} {tail : List Oper} : ∀ (heads : List Oper) (e : Env), HD P N C ops Q tail hs I heads e →
    ∃ hl : List (Oper × Value), hl.map (·.1) = heads ∧ (∀ i o v, hl[i]? = some (o, v) → Head P N C ops (envs hl i e) hs I o v ∧ freshO N (envs hl i e) o.dst = true) ∧ WL P N C ops tail Q (envs hl hl.length e) hs I
  | [], e, h => ⟨[], rfl, by simp, h⟩
  | o :: r, e, h => by
    obtain ⟨v, h1, h2, h3⟩ := h
    obtain ⟨hl, h4, h5, h6⟩ := HD.unroll r _ h3
    refine ⟨(o, v) :: hl, by simp [h4], fun i o' v' hi => ?_, by simpa [envs] using h6⟩
    cases i with
    | zero =>
      simp only [List.getElem?_cons_zero, Option.some.injEq, Prod.mk.injEq] at hi
      obtain ⟨rfl, rfl⟩ := hi
      exact ⟨h1, h2⟩
    | succ i => simpa [envs] using h5 i o' v' (by simpa using hi)

theorem envs_fr {hl : List (Oper × Value)} (hd : Distinct hl) {a : Act} (hf : Fr a N e) (h : ∀ i o v, hl[i]? = some (o, v) → freshO N (envs hl i e) o.dst = true) :
    ∀ i, i ≤ hl.length → Fr (puts hl (fun j => decide (j < i)) 0 a) N (envs hl i e)
  | 0, _ => by
    rw [puts_congr hl _ (fun _ => false) 0 a fun j _ => by simp]
    have : ∀ (l : List (Oper × Value)) k b, puts l (fun _ => false) k b = b := fun l => by
      induction l with
      | nil => intro k b; rfl
      | cons p r ih => intro k b; unfold puts; simp [ih]
    rw [this]
    simpa [envs] using hf
  | i + 1, hi => by
    have ih := envs_fr hd hf h i (by omega)
    have hlt : i < hl.length := by omega
    obtain ⟨⟨o, v⟩, hov⟩ : ∃ p, hl[i]? = some p := ⟨_, List.getElem?_eq_getElem hlt⟩
    have hfr := h i o v hov
    have hst := puts_step hd (L := fun j => decide (j < i)) hov (by simp) a
    have h1 : puts hl (fun j => decide (j < i + 1)) 0 a = (puts hl (fun j => decide (j < i)) 0 a).put o.dst v := by
      rw [hst]
      refine puts_congr hl _ _ 0 a fun j _ => ?_
      simp only [Nat.zero_add]
      rw [Bool.eq_iff_iff]
      simp
      omega
    rw [h1]
    have h2 : envs hl (i + 1) e = putE (envs hl i e) o.dst v := by
      unfold envs
      rw [List.take_add_one, hov]
      simp
    rw [h2]
    cases hod : o.dst with
    | none => rw [hod] at hfr; cases hfr
    | some d => rw [hod] at hfr; exact ih.putE hfr

theorem getD_tf {listed : Array Bool} {j : Nat} (h : j < listed.size) : listed.getD j true = listed.getD j false := by simp [h]

/-- The tail, in order. -/
theorem chain_any {ops : Array Oper} {n : Nat} (hedge : ∀ (i : Nat) (o : Oper), ops[i]? = some o → ∀ x ∈ o.after, Region.binds .any x = true → x.on < i) (hc : n = ops.size ∨ Region.chainB .any ops n = true) :
    ∀ (fuel m : Nat) (listed : Array Bool) (a : Act) (w : World), n ≤ m → m ≤ ops.size → listed.size = ops.size → (∀ j, j < ops.size → listed.getD j false = decide (j < m)) → ops.size - m ≤ fuel →
      wpList P ops Q (ops.toList.drop m) a w → wpAny P .any ops Q fuel listed a w := by
  intro fuel
  induction fuel with
  | zero =>
    intro m listed a w hnm hm hsz hl hfu h
    have hme : m = ops.size := by omega
    have hnr : Region.ready .any ops listed = [] := by
      apply List.eq_nil_iff_forall_not_mem.2
      intro j hj
      obtain ⟨h1, o, ho, _⟩ := mem_ready.1 hj
      have hlt := (Array.getElem?_eq_some_iff.1 ho).1
      rw [getD_tf (by omega), hl j hlt, hme] at h1
      simp at h1
      omega
    refine ⟨hnr, ?_⟩
    rw [List.drop_eq_nil_of_le (by simp [hme])] at h
    exact h
  | succ fuel ih =>
    intro m listed a w hnm hm hsz hl hfu h
    by_cases hme : m = ops.size
    · have hnr : Region.ready .any ops listed = [] := by
        apply List.eq_nil_iff_forall_not_mem.2
        intro j hj
        obtain ⟨h1, o, ho, _⟩ := mem_ready.1 hj
        have hlt := (Array.getElem?_eq_some_iff.1 ho).1
        rw [getD_tf (by omega), hl j hlt, hme] at h1
        simp at h1
        omega
      rw [List.drop_eq_nil_of_le (by simp [hme])] at h
      exact ⟨fun _ => h, fun i hi => (by rw [hnr] at hi; cases hi)⟩
    · have hlt : m < ops.size := by omega
      have hmr : m ∈ Region.ready .any ops listed := by
        refine mem_ready.2 ⟨?_, ops[m], Array.getElem?_eq_getElem hlt, fun x hx hbx => ?_⟩
        · rw [getD_tf (by omega), hl m hlt]
          simp
        · have := hedge m _ (Array.getElem?_eq_getElem hlt) x hx hbx
          rw [hl _ (by omega)]
          simp [this]
      refine ⟨fun h0 => (by rw [h0] at hmr; cases hmr), fun i hi => ?_⟩
      obtain ⟨h1, o, ho, hall⟩ := mem_ready.1 hi
      have hil := (Array.getElem?_eq_some_iff.1 ho).1
      have hge : m ≤ i := by
        rw [getD_tf (by omega), hl i hil] at h1
        simpa using h1
      have him : i = m := by
        rcases Nat.lt_or_ge m i with h2 | h2
        · exfalso
          rcases hc with h3 | h3
          · omega
          · have h4 := List.all_eq_true.1 h3 i (List.mem_range.2 hil)
            simp only [Bool.or_eq_true, decide_eq_true_eq] at h4
            rcases h4 with h4 | h4
            · omega
            · obtain ⟨o', ho', x, hx, hb, hon⟩ := Region.waitsFor_spec h4
              have : o' = o := Option.some.inj (ho'.symm.trans ho)
              subst this
              have h5 := hall x hx hb
              rw [hon, hl _ (by omega)] at h5
              simp at h5
              omega
        · omega
      subst him
      have hd : ops.toList.drop i = ops[i] :: ops.toList.drop (i + 1) := by
        rw [List.drop_eq_getElem_cons (by simpa using hil)]
        simp
      rw [hd] at h
      have hw : wpOp P ops Q i (wpList P ops Q (ops.toList.drop (i + 1))) a w := by
        unfold wpOp
        rw [Array.getElem?_eq_getElem hil]
        exact h
      refine wpOp_mono (fun a' w' h' => ih (i + 1) _ a' w' (by omega) (by omega) (by simpa using hsz) (fun j hj => ?_) (by omega) h') hw
      by_cases hji : i = j
      · subst hji
        have h7 : i < listed.size := by omega
        simp [h7]
      · rw [getD_set_ne false hji, hl j hj]
        rw [Bool.eq_iff_iff]
        simp
        omega

theorem countP_lt {l : List Nat} {p p' : Nat → Bool} (hp : ∀ x ∈ l, p' x = true → p x = true) {y : Nat} (hy : y ∈ l) (h1 : p y = true) (h2 : p' y = false) : l.countP p' < l.countP p := by
  induction l with
  | nil => cases hy
  | cons x r ih =>
    have hmono : r.countP p' ≤ r.countP p := List.countP_mono_left fun z hz h => hp z (List.mem_cons_of_mem _ hz) h
    rcases List.mem_cons.1 hy with rfl | hy
    · simp [h1, h2]
      omega
    · have := ih (fun z hz h => hp z (List.mem_cons_of_mem _ hz) h) hy
      have hx := hp x List.mem_cons_self
      simp only [List.countP_cons]
      cases hpx : p' x
      · simp; omega
      · simp [hx hpx]; omega

structure HeadForm (l : List Oper) (n : Nat) : Prop where
  nosel : Region.noSelect l.toArray = true
  le : n ≤ l.length
  edge : ∀ (i : Nat) (o : Oper), l.toArray[i]? = some o → ∀ x ∈ o.after, Region.binds .any x = true → x.on < i
  dist : ∀ (i j : Nat) (oi oj : Oper) (s : Nat), i < n → j < n → l[i]? = some oi → l[j]? = some oj → i ≠ j → oj.dst = some s → oi.dst ≠ some s ∧ (s ∈ oi.looksAt l.toArray → (j < i ∧ Region.waitsFor .any l.toArray i j = true) ∨ (i < j ∧ Region.waitsFor .any l.toArray j i = true))
  tail : n = l.length ∨ (Region.sinkB .any l.toArray n = true ∧ Region.chainB .any l.toArray n = true)

theorem headOk_spec {l : List Oper} {n : Nat} (h : headOk l n = true) : HeadForm l n := by
  unfold headOk at h
  simp only [Bool.and_eq_true, decide_eq_true_eq, Bool.or_eq_true] at h
  obtain ⟨⟨⟨⟨h1, h2⟩, h3⟩, h4⟩, h5⟩ := h
  refine ⟨h1, by simpa using h2, fun i o ho x hx hbx => ?_, fun i j oi oj s hi hj hoi hoj hij hds => ?_, by simpa using h5⟩
  · have hlt := (Array.getElem?_eq_some_iff.1 ho).1
    have h6 := List.all_eq_true.1 h3 i (List.mem_range.2 hlt)
    rw [ho] at h6
    have h7 := Array.all_eq_true_iff_forall_mem.1 h6 x hx
    simpa [hbx] using h7
  · have h6 := List.all_eq_true.1 h4 i (List.mem_range.2 hi)
    have hoi' : l.toArray[i]? = some oi := by simpa using hoi
    have hoj' : l.toArray[j]? = some oj := by simpa using hoj
    rw [hoi'] at h6
    have h7 := List.all_eq_true.1 h6 j (List.mem_range.2 hj)
    rw [hoj'] at h7
    simp only [Bool.or_eq_true, decide_eq_true_eq, hds] at h7
    rcases h7 with h7 | h7
    · exact absurd h7 hij
    · simp only [Bool.and_eq_true, Bool.or_eq_true, Bool.not_eq_true', decide_eq_true_eq] at h7
      refine ⟨h7.1, fun hm => ?_⟩
      rcases h7.2 with (h8 | h8) | h8
      · rw [List.contains_iff_mem.2 hm] at h8
        cases h8
      · exact .inl h8
      · exact .inr h8

theorem W.draw {id : Nat} {l : List Oper} (n : Nat) (hm : P.follows .mixedOrders = true) (hB : headOk l n = true)
    (h : HD P N C l.toArray Q (l.drop n) hs I (l.take n) e) : W P N C (.region id l.toArray true) Q e hs I := by
  intro a w hf hb
  refine wp_region_any hm ?_
  have hF := headOk_spec hB
  obtain ⟨hl, hmap, hhead, htail⟩ := HD.unroll _ _ h
  have hlen : hl.length = n := by
    have := congrArg List.length hmap
    simp at this
    have := hF.le
    omega
  rw [hlen] at htail
  have hget : ∀ (i : Nat) (o : Oper) (v : Value), hl[i]? = some (o, v) → l[i]? = some o := fun i o v hi => by
    have h1 : (hl.map (·.1))[i]? = some o := by simp [hi]
    rw [hmap, List.getElem?_take] at h1
    split at h1
    · exact h1
    · cases h1
  have hin : ∀ (i : Nat) (o : Oper) (v : Value), hl[i]? = some (o, v) → i < n := fun i o v hi => by
    have := (List.getElem?_eq_some_iff.1 hi).1
    omega
  have hdist : Distinct hl := fun i j o v o' v' s hi hj hij hds => (hF.dist j i o' o s (hin _ _ _ hj) (hin _ _ _ hi) (hget _ _ _ hj) (hget _ _ _ hi) (Ne.symm hij) hds).1
  have hfr := envs_fr hdist hf fun i o v hi => (hhead i o v hi).2
  have hsize : l.toArray.size = l.length := by simp
  -- the state
  have main : ∀ (fuel : Nat) (listed : Array Bool) (w' : World), HeadInv .any l.toArray n listed → Hb C w' hs I →
      (l.length - n) + (List.range n).countP (fun i => !listed.getD i true) ≤ fuel →
      wpAny P .any l.toArray Q fuel listed (puts hl (fun j => listed.getD j false) 0 a) w' := by
    intro fuel
    induction fuel with
    | zero =>
      intro listed w' inv hb' hfu
      have hall : ∀ j, j < n → listed.getD j false = true := fun j hj => by
        have h1 : (List.range n).countP (fun i => !listed.getD i true) = 0 := by omega
        have h2 := List.countP_eq_zero.1 h1 j (List.mem_range.2 hj)
        rw [← getD_tf (by rw [inv.size, hsize]; have := hF.le; omega)]
        simpa using h2
      refine chain_any hF.edge (hF.tail.imp (fun h => by rw [hsize]; exact h) (fun h => h.2)) 0 n listed _ w' (Nat.le_refl _) (by rw [hsize]; exact hF.le) inv.size (fun j hj => ?_) (by rw [hsize]; omega) ?_
      · by_cases hjn : j < n
        · rw [hall j hjn]; simp [hjn]
        · rw [← getD_tf (by rw [inv.size]; exact hj)]
          have h1 := inv.tail j (by omega) hj
          have h2 : listed.getD j false = false := getD_both h1
          rw [getD_tf (by rw [inv.size]; exact hj), h2]
          simp [hjn]
      · have h1 := htail _ w' (hfr n (by omega)) hb'
        rw [puts_congr hl _ (fun j => decide (j < n)) 0 a fun j hj => by
          simp only [Nat.zero_add]
          rw [hall j (by omega)]
          simp [show j < n by omega]]
        exact h1
    | succ fuel ih =>
      intro listed w' inv hb' hfu
      by_cases hall : ∀ j, j < n → listed.getD j false = true
      · have h0 : (List.range n).countP (fun i => !listed.getD i true) = 0 := List.countP_eq_zero.2 fun j hj => by
          have hj' := List.mem_range.1 hj
          rw [getD_tf (by rw [inv.size, hsize]; have := hF.le; omega), hall j hj']
          simp
        refine chain_any hF.edge (hF.tail.imp (fun h => by rw [hsize]; exact h) (fun h => h.2)) (fuel + 1) n listed _ w' (Nat.le_refl _) (by rw [hsize]; exact hF.le) inv.size (fun j hj => ?_) (by rw [hsize]; omega) ?_
        · by_cases hjn : j < n
          · rw [hall j hjn]; simp [hjn]
          · have h1 := inv.tail j (by omega) hj
            rw [getD_both h1]
            simp [hjn]
        · have h1 := htail _ w' (hfr n (by omega)) hb'
          rw [puts_congr hl _ (fun j => decide (j < n)) 0 a fun j hj => by
            simp only [Nat.zero_add]
            rw [hall j (by omega)]
            simp [show j < n by omega]]
          exact h1
      · -- some head is left
        have hex : ∃ j, j < n ∧ listed.getD j false = false := by
          apply Classical.byContradiction
          intro hno
          refine hall fun j hj => ?_
          cases hg : listed.getD j false with
          | true => rfl
          | false => exact absurd ⟨j, hj, hg⟩ hno
        have hleN := hF.le
        have hready : ∀ i ∈ Region.ready .any l.toArray listed, i < n := fun i hi => by
          rcases Nat.lt_or_ge i n with h1 | h1
          · exact h1
          · exfalso
            have hil : i < l.length := by
              obtain ⟨_, o, ho, _⟩ := mem_ready.1 hi
              have := (Array.getElem?_eq_some_iff.1 ho).1
              simpa using this
            rcases hF.tail with h2 | h2
            · omega
            · obtain ⟨j, hj, hg⟩ := hex
              exact tail_waits h2.1 h2.2 (by rw [hsize]; omega) inv _ j rfl hj (getD_in (by rw [inv.size, hsize]; omega) hg) i h1 hi
        have hne : Region.ready .any l.toArray listed ≠ [] := by
          obtain ⟨j, hj, hg⟩ := hex
          -- the least one that is left
          have key : ∀ k, ∀ j, j < n → listed.getD j false = false → j ≤ k → ∃ i, i ∈ Region.ready .any l.toArray listed := by
            intro k
            induction k with
            | zero =>
              intro j hj hg hjk
              have hj0 : j = 0 := by omega
              subst hj0
              have hlt : 0 < l.toArray.size := by rw [hsize]; omega
              refine ⟨0, mem_ready.2 ⟨getD_in (by rw [inv.size]; exact hlt) hg, _, Array.getElem?_eq_getElem hlt, fun x hx hbx => ?_⟩⟩
              have := hF.edge 0 _ (Array.getElem?_eq_getElem hlt) x hx hbx
              omega
            | succ k ihk =>
              intro j hj hg hjk
              have hlt : j < l.toArray.size := by rw [hsize]; omega
              by_cases hd : ∀ x ∈ (l.toArray[j]).after, Region.binds .any x = true → listed.getD x.on false = true
              · exact ⟨j, mem_ready.2 ⟨getD_in (by rw [inv.size]; exact hlt) hg, _, Array.getElem?_eq_getElem hlt, fun x hx hbx => hd x hx hbx⟩⟩
              · have hex2 : ∃ x ∈ (l.toArray[j]).after, Region.binds .any x = true ∧ listed.getD x.on false = false := by
                  apply Classical.byContradiction
                  intro hno
                  refine hd fun x hx hbx => ?_
                  cases hg2 : listed.getD x.on false with
                  | true => rfl
                  | false => exact absurd ⟨x, hx, hbx, hg2⟩ hno
                obtain ⟨x, hx, hbx, hg2⟩ := hex2
                have := hF.edge j _ (Array.getElem?_eq_getElem hlt) x hx hbx
                exact ihk x.on (by omega) hg2 (by omega)
          obtain ⟨i, hi⟩ := key j j hj hg (Nat.le_refl _)
          intro h0
          rw [h0] at hi
          cases hi
        refine ⟨fun h0 => absurd h0 hne, fun i hi => ?_⟩
        have hin' := hready i hi
        obtain ⟨hun, o, ho, hdeps⟩ := mem_ready.1 hi
        obtain ⟨⟨o', v⟩, hov⟩ : ∃ p, hl[i]? = some p := ⟨_, List.getElem?_eq_getElem (by omega)⟩
        have hoo : o' = o := by
          have h1 := hget i o' v hov
          have h2 : l[i]? = some o := by simpa using ho
          exact Option.some.inj (h1.symm.trans h2)
        subst hoo
        have hLi : listed.getD i false = false := getD_both hun
        -- the frame in the text's order reads alike
        have hslot : ∀ s ∈ o'.looksAt l.toArray, (puts hl (fun j => listed.getD j false) 0 a).tmps[s]? = (puts hl (fun j => decide (j < i)) 0 a).tmps[s]? := by
          intro s hs
          by_cases hssz : s < a.tmps.size
          · by_cases hex3 : ∃ j oj vj, hl[j]? = some (oj, vj) ∧ j ≠ i ∧ oj.dst = some s
            · obtain ⟨j, oj, vj, hj, hji, hds⟩ := hex3
              have h1 := (hF.dist i j o' oj s hin' (hin _ _ _ hj) (hget _ _ _ hov) (hget _ _ _ hj) (Ne.symm hji) hds).2 hs
              have hun2 : ∀ (k : Nat) (o2 : Oper) (v2 : Value), hl[k]? = some (o2, v2) → k ≠ j → o2.dst ≠ some s := fun k o2 v2 hk hkj hd2 => hdist k j o2 v2 oj vj s hk hj hkj hd2 hds
              rcases h1 with h1 | h1
              · obtain ⟨oi2, hoi2, x, hx, hbx, hon⟩ := Region.waitsFor_spec h1.2
                have : oi2 = o' := Option.some.inj (hoi2.symm.trans ho)
                subst this
                have h2 := hdeps x hx hbx
                rw [hon] at h2
                rw [puts_some hl _ s 0 a j oj vj hj (by simpa using h2) hds hssz hun2, puts_some hl _ s 0 a j oj vj hj (by simpa using h1.1) hds hssz hun2]
              · obtain ⟨oj2, hoj2, x, hx, hbx, hon⟩ := Region.waitsFor_spec h1.2
                have hjl : listed.getD j false = false := by
                  cases hg2 : listed.getD j false with
                  | false => rfl
                  | true =>
                    have h2 := inv.closed j oj2 hoj2 hg2 x hx hbx
                    rw [hon, hLi] at h2
                    cases h2
                have h3 : ∀ (L : Nat → Bool), L j = false → (puts hl L 0 a).tmps[s]? = a.tmps[s]? := fun L hL => puts_none hl L s 0 a fun k ok vk hk hLk hdk => by
                  by_cases hkj : k = j
                  · subst hkj
                    rw [Nat.zero_add, hL] at hLk
                    cases hLk
                  · exact hun2 k ok vk hk hkj hdk
                rw [h3 _ hjl, h3 _ (by simp; omega)]
            · have h3 : ∀ (L : Nat → Bool), L i = false → (puts hl L 0 a).tmps[s]? = a.tmps[s]? := fun L hL => puts_none hl L s 0 a fun j oj vj hj hLj hds => by
                by_cases hji : j = i
                · subst hji
                  rw [Nat.zero_add, hL] at hLj
                  cases hLj
                · exact hex3 ⟨j, oj, vj, hj, hji, hds⟩
              rw [h3 _ hLi, h3 _ (by simp)]
          · have hz : ∀ L : Nat → Bool, (puts hl L 0 a).tmps[s]? = none := fun L => by
              have h5 := (puts_size hl L 0 a).1
              rw [Array.getElem?_eq_none_iff, h5]
              exact Nat.le_of_not_lt hssz
            rw [hz, hz]
        have hsel : ∀ cs b, o'.op ≠ .select cs b := fun cs b => Region.noSelect_spec hF.nosel i o' cs b ho
        have hexec : execOp (puts hl (fun j => listed.getD j false) 0 a).eval o' = execOp (puts hl (fun j => decide (j < i)) 0 a).eval o' :=
          execOp_congr o' hsel fun x hx => by
            cases x with
            | tmp t =>
              have hmem : t ∈ o'.looksAt l.toArray := List.mem_append_left _ (List.mem_filterMap.2 ⟨.tmp t, by simpa using hx, rfl⟩)
              have := hslot t hmem
              show (puts hl (fun j => listed.getD j false) 0 a).tmps.getD t undef = (puts hl (fun j => decide (j < i)) 0 a).tmps.getD t undef
              rw [Array.getD_eq_getD_getElem?, Array.getD_eq_getD_getElem?, this]
            | _ => rfl
        have hwant : Region.wanted o' (yielded l.toArray (puts hl (fun j => listed.getD j false) 0 a).tmps) = Region.wanted o' (yielded l.toArray (puts hl (fun j => decide (j < i)) 0 a).tmps) := by
          unfold Region.wanted
          cases hgd : o'.guard with
          | none => rfl
          | some p =>
            obtain ⟨g, want⟩ := p
            simp only
            congr 1
            unfold yielded
            cases hdg : (l.toArray[g]?).bind (·.dst) with
            | none => rfl
            | some s =>
              have hmem : s ∈ o'.looksAt l.toArray := by
                refine List.mem_append_right _ ?_
                simp only [hgd, hdg]
                simp
              simp only [Option.bind_some]
              rw [hslot s hmem]
        have hstep : ∀ w'', Hb C w'' hs I → wpAny P .any l.toArray Q fuel (listed.setIfInBounds i true) ((puts hl (fun j => listed.getD j false) 0 a).put o'.dst v) w'' := by
          intro w'' hb''
          rw [puts_step hdist hov hLi a]
          have hisz : i < listed.size := by rw [inv.size, hsize]; omega
          rw [puts_congr hl _ (fun j => (listed.setIfInBounds i true).getD j false) 0 a fun j _ => by
            simp only [Nat.zero_add]
            by_cases hji : j = i
            · subst hji
              simp [hisz]
            · rw [getD_set_ne false (Ne.symm hji)]
              have : Nat.beq j i = false := by
                cases hbq : Nat.beq j i with
                | false => rfl
                | true => exact absurd (Nat.eq_of_beq_eq_true hbq) hji
              rw [this]
              simp]
          refine ih _ w'' (inv.set hi hin') hb'' ?_
          have := countP_lt (l := List.range n) (p := fun i => !listed.getD i true) (p' := fun j => !(listed.setIfInBounds i true).getD j true) (fun x _ hx => by
            by_cases hxi : i = x
            · subst hxi; simp [hisz] at hx
            · rwa [getD_set_ne true hxi] at hx) (List.mem_range.2 hin') (by simp [hun]) (by simp [hisz])
          omega
        have hh := (hhead i o' v hov).1 _ (hfr i (by omega))
        unfold wpOp
        rw [ho]
        simp only
        rcases hh with ⟨hw0, hv0⟩ | ⟨hw1, hrun⟩
        · rw [hwant, hw0]
          simp only [Bool.false_eq_true, if_false]
          rw [← hv0]
          exact hstep w' hb'
        · rw [hwant, hw1]
          simp only [if_true]
          refine .inl ?_
          unfold Oper.wp
          rw [hexec]
          have h1 := hrun w' hb'
          generalize (execOp (puts hl (fun j => decide (j < i)) 0 a).eval o').run P w' = r at h1
          cases r with
          | halt x w2 => exact h1.elim
          | ok x w2 =>
            cases x <;> first | exact h1.elim | skip
            · obtain ⟨rfl, h2⟩ := h1
              exact hstep _ h2
            · exact Calls.mono h1 fun x w3 hx => by
                obtain ⟨rfl, h2⟩ := hx
                exact hstep _ h2
  have h0 := main l.toArray.size (Array.replicate l.toArray.size false) { w with drawn := w.drawn + 1 }
    ⟨by simp, fun j oj _ hl' => (by rw [getD_replicate_false] at hl'; cases hl'), fun t _ ht => getD_in (by simpa using ht) (getD_replicate_false _ _)⟩
    (hb.same rfl rfl rfl rfl) (by
      have h1 := List.countP_le_length (p := fun i => !(Array.replicate l.toArray.size false).getD i true) (l := List.range n)
      simp only [List.length_range] at h1
      have := hF.le
      omega)
  have h2 : puts hl (fun j => (Array.replicate l.toArray.size false).getD j false) 0 a = a := by
    rw [puts_congr hl _ (fun _ => false) 0 a fun j _ => by simp only [Nat.zero_add]; exact getD_replicate_false _ _]
    have : ∀ (l : List (Oper × Value)) k b, puts l (fun _ => false) k b = b := fun l => by
      induction l with
      | nil => intro k b; rfl
      | cons p r ih => intro k b; unfold puts; simp [ih]
    exact this _ _ _
  rw [h2] at h0
  exact h0
end
end Go.Eng

/-
  The engine: places in lists, by number; more rules.
-/
namespace Go.Eng
open Go Go.RowKit

section
variable {k : Nat} {v u : Value} {r : Env} {c c' : Chunk} {hr : List Chunk}
theorem L0 : Look ((k, v) :: r) k v := .here
theorem U0 : Upd ((k, u) :: r) k v ((k, v) :: r) := .here
theorem L1 {a0 : Nat × Value} : Look (a0 :: (k, v) :: r) k v := .there L0
theorem U1 {a0 : Nat × Value} : Upd (a0 :: (k, u) :: r) k v (a0 :: (k, v) :: r) := .there U0
theorem L2 {a0 a1 : Nat × Value} : Look (a0 :: a1 :: (k, v) :: r) k v := .there L1
theorem U2 {a0 a1 : Nat × Value} : Upd (a0 :: a1 :: (k, u) :: r) k v (a0 :: a1 :: (k, v) :: r) := .there U1
theorem L3 {a0 a1 a2 : Nat × Value} : Look (a0 :: a1 :: a2 :: (k, v) :: r) k v := .there L2
theorem U3 {a0 a1 a2 : Nat × Value} : Upd (a0 :: a1 :: a2 :: (k, u) :: r) k v (a0 :: a1 :: a2 :: (k, v) :: r) := .there U2
theorem L4 {a0 a1 a2 a3 : Nat × Value} : Look (a0 :: a1 :: a2 :: a3 :: (k, v) :: r) k v := .there L3
theorem U4 {a0 a1 a2 a3 : Nat × Value} : Upd (a0 :: a1 :: a2 :: a3 :: (k, u) :: r) k v (a0 :: a1 :: a2 :: a3 :: (k, v) :: r) := .there U3
theorem L5 {a0 a1 a2 a3 a4 : Nat × Value} : Look (a0 :: a1 :: a2 :: a3 :: a4 :: (k, v) :: r) k v := .there L4
theorem U5 {a0 a1 a2 a3 a4 : Nat × Value} : Upd (a0 :: a1 :: a2 :: a3 :: a4 :: (k, u) :: r) k v (a0 :: a1 :: a2 :: a3 :: a4 :: (k, v) :: r) := .there U4
theorem L6 {a0 a1 a2 a3 a4 a5 : Nat × Value} : Look (a0 :: a1 :: a2 :: a3 :: a4 :: a5 :: (k, v) :: r) k v := .there L5
theorem U6 {a0 a1 a2 a3 a4 a5 : Nat × Value} : Upd (a0 :: a1 :: a2 :: a3 :: a4 :: a5 :: (k, u) :: r) k v (a0 :: a1 :: a2 :: a3 :: a4 :: a5 :: (k, v) :: r) := .there U5
theorem L7 {a0 a1 a2 a3 a4 a5 a6 : Nat × Value} : Look (a0 :: a1 :: a2 :: a3 :: a4 :: a5 :: a6 :: (k, v) :: r) k v := .there L6
theorem U7 {a0 a1 a2 a3 a4 a5 a6 : Nat × Value} : Upd (a0 :: a1 :: a2 :: a3 :: a4 :: a5 :: a6 :: (k, u) :: r) k v (a0 :: a1 :: a2 :: a3 :: a4 :: a5 :: a6 :: (k, v) :: r) := .there U6
theorem L8 {a0 a1 a2 a3 a4 a5 a6 a7 : Nat × Value} : Look (a0 :: a1 :: a2 :: a3 :: a4 :: a5 :: a6 :: a7 :: (k, v) :: r) k v := .there L7
theorem U8 {a0 a1 a2 a3 a4 a5 a6 a7 : Nat × Value} : Upd (a0 :: a1 :: a2 :: a3 :: a4 :: a5 :: a6 :: a7 :: (k, u) :: r) k v (a0 :: a1 :: a2 :: a3 :: a4 :: a5 :: a6 :: a7 :: (k, v) :: r) := .there U7
theorem L9 {a0 a1 a2 a3 a4 a5 a6 a7 a8 : Nat × Value} : Look (a0 :: a1 :: a2 :: a3 :: a4 :: a5 :: a6 :: a7 :: a8 :: (k, v) :: r) k v := .there L8
theorem U9 {a0 a1 a2 a3 a4 a5 a6 a7 a8 : Nat × Value} : Upd (a0 :: a1 :: a2 :: a3 :: a4 :: a5 :: a6 :: a7 :: a8 :: (k, u) :: r) k v (a0 :: a1 :: a2 :: a3 :: a4 :: a5 :: a6 :: a7 :: a8 :: (k, v) :: r) := .there U8
theorem D1 {a0 a1 a2 a3 a4 a5 a6 a7 a8 a9 : Nat × Value} (h : Look r k v) : Look (a0 :: a1 :: a2 :: a3 :: a4 :: a5 :: a6 :: a7 :: a8 :: a9 :: r) k v := .there (.there (.there (.there (.there (.there (.there (.there (.there (.there h)))))))))
theorem E1 {a0 a1 a2 a3 a4 a5 a6 a7 a8 a9 : Nat × Value} {r' : Env} (h : Upd r k v r') : Upd (a0 :: a1 :: a2 :: a3 :: a4 :: a5 :: a6 :: a7 :: a8 :: a9 :: r) k v (a0 :: a1 :: a2 :: a3 :: a4 :: a5 :: a6 :: a7 :: a8 :: a9 :: r') := .there (.there (.there (.there (.there (.there (.there (.there (.there (.there h)))))))))
theorem H0 : Has (c :: hr) c := .h0
theorem C0 : Cup (c :: hr) c c' (c' :: hr) := .here
theorem H1 {a0 : Chunk} : Has (a0 :: c :: hr) c := .hn H0
theorem C1 {a0 : Chunk} : Cup (a0 :: c :: hr) c c' (a0 :: c' :: hr) := .there C0
theorem H2 {a0 a1 : Chunk} : Has (a0 :: a1 :: c :: hr) c := .hn H1
theorem C2 {a0 a1 : Chunk} : Cup (a0 :: a1 :: c :: hr) c c' (a0 :: a1 :: c' :: hr) := .there C1
theorem H3 {a0 a1 a2 : Chunk} : Has (a0 :: a1 :: a2 :: c :: hr) c := .hn H2
theorem C3 {a0 a1 a2 : Chunk} : Cup (a0 :: a1 :: a2 :: c :: hr) c c' (a0 :: a1 :: a2 :: c' :: hr) := .there C2
theorem H4 {a0 a1 a2 a3 : Chunk} : Has (a0 :: a1 :: a2 :: a3 :: c :: hr) c := .hn H3
theorem C4 {a0 a1 a2 a3 : Chunk} : Cup (a0 :: a1 :: a2 :: a3 :: c :: hr) c c' (a0 :: a1 :: a2 :: a3 :: c' :: hr) := .there C3
theorem H5 {a0 a1 a2 a3 a4 : Chunk} : Has (a0 :: a1 :: a2 :: a3 :: a4 :: c :: hr) c := .hn H4
theorem C5 {a0 a1 a2 a3 a4 : Chunk} : Cup (a0 :: a1 :: a2 :: a3 :: a4 :: c :: hr) c c' (a0 :: a1 :: a2 :: a3 :: a4 :: c' :: hr) := .there C4
theorem H6 {a0 a1 a2 a3 a4 a5 : Chunk} : Has (a0 :: a1 :: a2 :: a3 :: a4 :: a5 :: c :: hr) c := .hn H5
theorem C6 {a0 a1 a2 a3 a4 a5 : Chunk} : Cup (a0 :: a1 :: a2 :: a3 :: a4 :: a5 :: c :: hr) c c' (a0 :: a1 :: a2 :: a3 :: a4 :: a5 :: c' :: hr) := .there C5
theorem H7 {a0 a1 a2 a3 a4 a5 a6 : Chunk} : Has (a0 :: a1 :: a2 :: a3 :: a4 :: a5 :: a6 :: c :: hr) c := .hn H6
theorem C7 {a0 a1 a2 a3 a4 a5 a6 : Chunk} : Cup (a0 :: a1 :: a2 :: a3 :: a4 :: a5 :: a6 :: c :: hr) c c' (a0 :: a1 :: a2 :: a3 :: a4 :: a5 :: a6 :: c' :: hr) := .there C6
theorem H8 {a0 a1 a2 a3 a4 a5 a6 a7 : Chunk} : Has (a0 :: a1 :: a2 :: a3 :: a4 :: a5 :: a6 :: a7 :: c :: hr) c := .hn H7
theorem C8 {a0 a1 a2 a3 a4 a5 a6 a7 : Chunk} : Cup (a0 :: a1 :: a2 :: a3 :: a4 :: a5 :: a6 :: a7 :: c :: hr) c c' (a0 :: a1 :: a2 :: a3 :: a4 :: a5 :: a6 :: a7 :: c' :: hr) := .there C7
theorem H9 {a0 a1 a2 a3 a4 a5 a6 a7 a8 : Chunk} : Has (a0 :: a1 :: a2 :: a3 :: a4 :: a5 :: a6 :: a7 :: a8 :: c :: hr) c := .hn H8
theorem C9 {a0 a1 a2 a3 a4 a5 a6 a7 a8 : Chunk} : Cup (a0 :: a1 :: a2 :: a3 :: a4 :: a5 :: a6 :: a7 :: a8 :: c :: hr) c c' (a0 :: a1 :: a2 :: a3 :: a4 :: a5 :: a6 :: a7 :: a8 :: c' :: hr) := .there C8
theorem H10 {a0 a1 a2 a3 a4 a5 a6 a7 a8 a9 : Chunk} : Has (a0 :: a1 :: a2 :: a3 :: a4 :: a5 :: a6 :: a7 :: a8 :: a9 :: c :: hr) c := .hn H9
theorem C10 {a0 a1 a2 a3 a4 a5 a6 a7 a8 a9 : Chunk} : Cup (a0 :: a1 :: a2 :: a3 :: a4 :: a5 :: a6 :: a7 :: a8 :: a9 :: c :: hr) c c' (a0 :: a1 :: a2 :: a3 :: a4 :: a5 :: a6 :: a7 :: a8 :: a9 :: c' :: hr) := .there C9
theorem H11 {a0 a1 a2 a3 a4 a5 a6 a7 a8 a9 a10 : Chunk} : Has (a0 :: a1 :: a2 :: a3 :: a4 :: a5 :: a6 :: a7 :: a8 :: a9 :: a10 :: c :: hr) c := .hn H10
theorem C11 {a0 a1 a2 a3 a4 a5 a6 a7 a8 a9 a10 : Chunk} : Cup (a0 :: a1 :: a2 :: a3 :: a4 :: a5 :: a6 :: a7 :: a8 :: a9 :: a10 :: c :: hr) c c' (a0 :: a1 :: a2 :: a3 :: a4 :: a5 :: a6 :: a7 :: a8 :: a9 :: a10 :: c' :: hr) := .there C10
theorem H12 {a0 a1 a2 a3 a4 a5 a6 a7 a8 a9 a10 a11 : Chunk} : Has (a0 :: a1 :: a2 :: a3 :: a4 :: a5 :: a6 :: a7 :: a8 :: a9 :: a10 :: a11 :: c :: hr) c := .hn H11
theorem C12 {a0 a1 a2 a3 a4 a5 a6 a7 a8 a9 a10 a11 : Chunk} : Cup (a0 :: a1 :: a2 :: a3 :: a4 :: a5 :: a6 :: a7 :: a8 :: a9 :: a10 :: a11 :: c :: hr) c c' (a0 :: a1 :: a2 :: a3 :: a4 :: a5 :: a6 :: a7 :: a8 :: a9 :: a10 :: a11 :: c' :: hr) := .there C11
theorem H13 {a0 a1 a2 a3 a4 a5 a6 a7 a8 a9 a10 a11 a12 : Chunk} : Has (a0 :: a1 :: a2 :: a3 :: a4 :: a5 :: a6 :: a7 :: a8 :: a9 :: a10 :: a11 :: a12 :: c :: hr) c := .hn H12
theorem C13 {a0 a1 a2 a3 a4 a5 a6 a7 a8 a9 a10 a11 a12 : Chunk} : Cup (a0 :: a1 :: a2 :: a3 :: a4 :: a5 :: a6 :: a7 :: a8 :: a9 :: a10 :: a11 :: a12 :: c :: hr) c c' (a0 :: a1 :: a2 :: a3 :: a4 :: a5 :: a6 :: a7 :: a8 :: a9 :: a10 :: a11 :: a12 :: c' :: hr) := .there C12
theorem H14 {a0 a1 a2 a3 a4 a5 a6 a7 a8 a9 a10 a11 a12 a13 : Chunk} : Has (a0 :: a1 :: a2 :: a3 :: a4 :: a5 :: a6 :: a7 :: a8 :: a9 :: a10 :: a11 :: a12 :: a13 :: c :: hr) c := .hn H13
theorem C14 {a0 a1 a2 a3 a4 a5 a6 a7 a8 a9 a10 a11 a12 a13 : Chunk} : Cup (a0 :: a1 :: a2 :: a3 :: a4 :: a5 :: a6 :: a7 :: a8 :: a9 :: a10 :: a11 :: a12 :: a13 :: c :: hr) c c' (a0 :: a1 :: a2 :: a3 :: a4 :: a5 :: a6 :: a7 :: a8 :: a9 :: a10 :: a11 :: a12 :: a13 :: c' :: hr) := .there C13
theorem H15 {a0 a1 a2 a3 a4 a5 a6 a7 a8 a9 a10 a11 a12 a13 a14 : Chunk} : Has (a0 :: a1 :: a2 :: a3 :: a4 :: a5 :: a6 :: a7 :: a8 :: a9 :: a10 :: a11 :: a12 :: a13 :: a14 :: c :: hr) c := .hn H14
theorem C15 {a0 a1 a2 a3 a4 a5 a6 a7 a8 a9 a10 a11 a12 a13 a14 : Chunk} : Cup (a0 :: a1 :: a2 :: a3 :: a4 :: a5 :: a6 :: a7 :: a8 :: a9 :: a10 :: a11 :: a12 :: a13 :: a14 :: c :: hr) c c' (a0 :: a1 :: a2 :: a3 :: a4 :: a5 :: a6 :: a7 :: a8 :: a9 :: a10 :: a11 :: a12 :: a13 :: a14 :: c' :: hr) := .there C14
end

/-- Entries are let go. -/
inductive Del : Env → Env → Prop
  | rf {e : Env} : Del e e
  | dr {x : Nat × Value} {r r' : Env} : Del r r' → Del (x :: r) r'
  | kp {x : Nat × Value} {r r' : Env} : Del r r' → Del (x :: r) (x :: r')
theorem Del.sub {e e' : Env} (h : Del e e') : e'.Sublist e := by
  induction h with
  | rf => exact List.Sublist.refl _
  | dr _ ih => exact .cons _ ih
  | kp _ ih => exact .cons_cons _ ih
theorem Fr.del {a : Act} {N : Nat} {e e' : Env} (h : Fr a N e) (hd : Del e e') : Fr a N e' :=
  ⟨h.size, h.defers, fun p hp => h.val p (hd.sub.subset hp), h.nd.sublist (hd.sub.map _)⟩

theorem Apart.perm {l l' : List Chunk} (h : Apart l) (p : l.Perm l') : Apart l' :=
  (p.pairwise_iff fun hxy g hg hgx => hxy g hgx hg).1 h
theorem Hb.perm {C : Cx} {w : World} {l l' : List Chunk} {I : World → Prop} (h : Hb C w l I) (p : l.Perm l') : Hb C w l' I :=
  ⟨⟨h.hp.os, h.hp.tape, h.hp.output, h.hp.size, h.hp.keep, fun c hc => h.hp.hold c (p.mem_iff.2 hc), fun c hc => h.hp.own c (p.mem_iff.2 hc), h.hp.apart.perm p, h.hp.av⟩,
   h.box.sub fun _ _ ha hf => ⟨ha, fun c hc => hf c (p.mem_iff.2 hc)⟩⟩

theorem Split.none : ∀ (hs : List Chunk), Split hs [] hs
  | [] => .nil
  | _ :: r => .dr (Split.none r)
theorem Split.all : ∀ (hs : List Chunk), Split hs hs []
  | [] => .nil
  | _ :: r => .kp rfl (Split.all r)
/-- A place in a list of chunks. -/
inductive Ins : List Chunk → Chunk → (Chunk → List Chunk) → Prop
  | here {c : Chunk} {r : List Chunk} : Ins (c :: r) c (fun d => d :: r)
  | there {x c : Chunk} {r : List Chunk} {k : Chunk → List Chunk} : Ins r c k → Ins (x :: r) c (fun d => x :: k d)
section
variable {c : Chunk} {hr : List Chunk}
theorem I0 : Ins (c :: hr) c (fun d => d :: hr) := .here
theorem I1 {a0 : Chunk} : Ins (a0 :: c :: hr) c (fun d => a0 :: d :: hr) := .there I0
theorem I2 {a0 a1 : Chunk} : Ins (a0 :: a1 :: c :: hr) c (fun d => a0 :: a1 :: d :: hr) := .there I1
theorem I3 {a0 a1 a2 : Chunk} : Ins (a0 :: a1 :: a2 :: c :: hr) c (fun d => a0 :: a1 :: a2 :: d :: hr) := .there I2
theorem I4 {a0 a1 a2 a3 : Chunk} : Ins (a0 :: a1 :: a2 :: a3 :: c :: hr) c (fun d => a0 :: a1 :: a2 :: a3 :: d :: hr) := .there I3
theorem I5 {a0 a1 a2 a3 a4 : Chunk} : Ins (a0 :: a1 :: a2 :: a3 :: a4 :: c :: hr) c (fun d => a0 :: a1 :: a2 :: a3 :: a4 :: d :: hr) := .there I4
theorem I6 {a0 a1 a2 a3 a4 a5 : Chunk} : Ins (a0 :: a1 :: a2 :: a3 :: a4 :: a5 :: c :: hr) c (fun d => a0 :: a1 :: a2 :: a3 :: a4 :: a5 :: d :: hr) := .there I5
theorem I7 {a0 a1 a2 a3 a4 a5 a6 : Chunk} : Ins (a0 :: a1 :: a2 :: a3 :: a4 :: a5 :: a6 :: c :: hr) c (fun d => a0 :: a1 :: a2 :: a3 :: a4 :: a5 :: a6 :: d :: hr) := .there I6
theorem I8 {a0 a1 a2 a3 a4 a5 a6 a7 : Chunk} : Ins (a0 :: a1 :: a2 :: a3 :: a4 :: a5 :: a6 :: a7 :: c :: hr) c (fun d => a0 :: a1 :: a2 :: a3 :: a4 :: a5 :: a6 :: a7 :: d :: hr) := .there I7
theorem I9 {a0 a1 a2 a3 a4 a5 a6 a7 a8 : Chunk} : Ins (a0 :: a1 :: a2 :: a3 :: a4 :: a5 :: a6 :: a7 :: a8 :: c :: hr) c (fun d => a0 :: a1 :: a2 :: a3 :: a4 :: a5 :: a6 :: a7 :: a8 :: d :: hr) := .there I8
theorem I10 {a0 a1 a2 a3 a4 a5 a6 a7 a8 a9 : Chunk} : Ins (a0 :: a1 :: a2 :: a3 :: a4 :: a5 :: a6 :: a7 :: a8 :: a9 :: c :: hr) c (fun d => a0 :: a1 :: a2 :: a3 :: a4 :: a5 :: a6 :: a7 :: a8 :: a9 :: d :: hr) := .there I9
theorem I11 {a0 a1 a2 a3 a4 a5 a6 a7 a8 a9 a10 : Chunk} : Ins (a0 :: a1 :: a2 :: a3 :: a4 :: a5 :: a6 :: a7 :: a8 :: a9 :: a10 :: c :: hr) c (fun d => a0 :: a1 :: a2 :: a3 :: a4 :: a5 :: a6 :: a7 :: a8 :: a9 :: a10 :: d :: hr) := .there I10
theorem I12 {a0 a1 a2 a3 a4 a5 a6 a7 a8 a9 a10 a11 : Chunk} : Ins (a0 :: a1 :: a2 :: a3 :: a4 :: a5 :: a6 :: a7 :: a8 :: a9 :: a10 :: a11 :: c :: hr) c (fun d => a0 :: a1 :: a2 :: a3 :: a4 :: a5 :: a6 :: a7 :: a8 :: a9 :: a10 :: a11 :: d :: hr) := .there I11
theorem I13 {a0 a1 a2 a3 a4 a5 a6 a7 a8 a9 a10 a11 a12 : Chunk} : Ins (a0 :: a1 :: a2 :: a3 :: a4 :: a5 :: a6 :: a7 :: a8 :: a9 :: a10 :: a11 :: a12 :: c :: hr) c (fun d => a0 :: a1 :: a2 :: a3 :: a4 :: a5 :: a6 :: a7 :: a8 :: a9 :: a10 :: a11 :: a12 :: d :: hr) := .there I12
theorem I14 {a0 a1 a2 a3 a4 a5 a6 a7 a8 a9 a10 a11 a12 a13 : Chunk} : Ins (a0 :: a1 :: a2 :: a3 :: a4 :: a5 :: a6 :: a7 :: a8 :: a9 :: a10 :: a11 :: a12 :: a13 :: c :: hr) c (fun d => a0 :: a1 :: a2 :: a3 :: a4 :: a5 :: a6 :: a7 :: a8 :: a9 :: a10 :: a11 :: a12 :: a13 :: d :: hr) := .there I13
theorem I15 {a0 a1 a2 a3 a4 a5 a6 a7 a8 a9 a10 a11 a12 a13 a14 : Chunk} : Ins (a0 :: a1 :: a2 :: a3 :: a4 :: a5 :: a6 :: a7 :: a8 :: a9 :: a10 :: a11 :: a12 :: a13 :: a14 :: c :: hr) c (fun d => a0 :: a1 :: a2 :: a3 :: a4 :: a5 :: a6 :: a7 :: a8 :: a9 :: a10 :: a11 :: a12 :: a13 :: a14 :: d :: hr) := .there I14
end
theorem Ins.spec {hs : List Chunk} {c : Chunk} {k : Chunk → List Chunk} (h : Ins hs c k) : ∃ pre post, hs = pre ++ c :: post ∧ ∀ d, k d = pre ++ d :: post := by
  induction h with
  | @here c r => exact ⟨[], r, rfl, fun _ => rfl⟩
  | @there x c r k _ ih =>
    obtain ⟨pre, post, h1, h2⟩ := ih
    exact ⟨x :: pre, post, by simp [h1], fun d => by simp [h2]⟩
theorem Split.app {a b k1 d1 k2 d2 : List Chunk} (h1 : Split a k1 d1) (h2 : Split b k2 d2) : Split (a ++ b) (k1 ++ k2) (d1 ++ d2) := by
  induction h1 with
  | nil => exact h2
  | kp e _ ih => exact .kp e ih
  | dr _ ih => exact .dr ih

/-- A call that hands back a plain value. -/
def Ret (P : Program) (f : FuncId) (args : List Value) (C : Cx) (v : Value) : Prop := Sp P f args C (ι := Unit) (fun _ => v) (fun _ => []) (fun _ _ => True)

section
variable {P : Program} {N : Nat} {C : Cx} {Q : Exit → Act → World → Prop} {e e' : Env} {hs hs' : List Chunk} {I J : World → Prop}
variable {d : Tmp} {ty : TypeId} {pos : String} {af : Array Edge} {ops : Array Oper} {rest : List Oper}

theorem W.del {c : Code} (hd : Del e e') (h : W P N C c Q e' hs I) : W P N C c Q e hs I := fun a w hf hb => h a w (hf.del hd) hb
theorem QS.del {z : Exit} (hd : Del e e') (h : QS N C Q z e' hs I) : QS N C Q z e hs I := fun a w hf hb => h a w (hf.del hd) hb
theorem W.perm {c : Code} (hp : hs.Perm hs') (h : W P N C c Q e hs' I) : W P N C c Q e hs I := fun a w hf hb => h a w hf (hb.perm hp)
theorem WL.imp {l : List Oper} (hI : ∀ w, I w → J w) (h : WL P N C ops l Q e hs J) : WL P N C ops l Q e hs I := fun a w hf hb => h a w hf (hb.imp hI)
theorem W.imp {c : Code} (hI : ∀ w, I w → J w) (h : W P N C c Q e hs J) : W P N C c Q e hs I := fun a w hf hb => h a w hf (hb.imp hI)
theorem W.veq {c : Code} (he : e = e') (h : W P N C c Q e' hs I) : W P N C c Q e hs I := he ▸ h
theorem WL.veq {l : List Oper} (he : e = e') (h : WL P N C ops l Q e' hs I) : WL P N C ops l Q e hs I := he ▸ h

/-- A call that hands back a plain value. -/
theorem WL.callr {f : FuncId} {ars : List Operand} {ats : Array TypeId} {vs : List Value} {fo : Operand} {v : Value} (hg : GoFn P f) (hfo : EV e fo (.func (.func f) #[] #[])) (has : EVA e ars vs)
    (hC : ∀ w, Hb (C.sub w [] hs) w [] I → Ret P f vs (C.sub w [] hs) v) (hfr : fresh N e d = true) (h : WL P N C ops rest Q ((d, v) :: e) hs I) :
    WL P N C ops (⟨some d, .call ⟨.value fo, ars.toArray, ats⟩, ty, pos, af, none⟩ :: rest) Q e hs I :=
  WL.call hg hfo has (Split.none hs) hC hfr fun _ => WL.imp (fun _ h => h.1) h
/-- A call to which one chunk is handed, and that hands it back. -/
theorem WL.call1 {ι : Type} {f : FuncId} {ars : List Operand} {ats : Array TypeId} {vs : List Value} {fo : Operand} {v : ι → Value} {c : Chunk} {c' : ι → Chunk} {X : ι → List Chunk} {F : ι → World → Prop} {k : Chunk → List Chunk}
    (hg : GoFn P f) (hfo : EV e fo (.func (.func f) #[] #[])) (has : EVA e ars vs) (hc : Ins hs c k)
    (hC : ∀ w ds, Hb (C.sub w [c] ds) w [c] I → Sp P f vs (C.sub w [c] ds) v (fun x => c' x :: X x) F) (hfr : fresh N e d = true)
    (h : ∀ x, WL P N C ops rest Q ((d, v x) :: e) (X x ++ k (c' x)) (fun w => I w ∧ F x w)) :
    WL P N C ops (⟨some d, .call ⟨.value fo, ars.toArray, ats⟩, ty, pos, af, none⟩ :: rest) Q e hs I := by
  obtain ⟨pre, post, rfl, hk⟩ := hc.spec
  intro a w hf hb
  refine wpList_plain rfl fun K hK => ?_
  unfold Oper.wp
  rw [run_call hg (hf.ev hfo) (hf.eva has)]
  have sp : Split (pre ++ c :: post) [c] (pre ++ post) := Split.app (Split.none pre) (.kp rfl (Split.none post))
  refine (hC w _ (hb.pass sp)).mono fun x w' hx => ?_
  obtain ⟨i, rfl, hbi⟩ := hx
  refine hK _ _ (h i _ _ (hf.put hfr) ((hb.back sp hbi).perm ?_))
  rw [hk]
  have h1 : (c' i :: X i ++ (pre ++ post)).Perm (X i ++ (c' i :: (pre ++ post))) := by simpa using (List.perm_middle (l₁ := X i) (a := c' i) (l₂ := pre ++ post)).symm
  exact h1.trans ((List.perm_middle (l₁ := pre) (a := c' i) (l₂ := post)).symm.append_left _)
theorem WL.call1n {ι : Type} {f : FuncId} {ars : List Operand} {ats : Array TypeId} {vs : List Value} {fo : Operand} {v : ι → Value} {c : Chunk} {c' : ι → Chunk} {X : ι → List Chunk} {F : ι → World → Prop} {k : Chunk → List Chunk}
    (hg : GoFn P f) (hfo : EV e fo (.func (.func f) #[] #[])) (has : EVA e ars vs) (hc : Ins hs c k)
    (hC : ∀ w ds, Hb (C.sub w [c] ds) w [c] I → Sp P f vs (C.sub w [c] ds) v (fun x => c' x :: X x) F)
    (h : ∀ x, WL P N C ops rest Q e (X x ++ k (c' x)) (fun w => I w ∧ F x w)) :
    WL P N C ops (⟨none, .call ⟨.value fo, ars.toArray, ats⟩, ty, pos, af, none⟩ :: rest) Q e hs I := by
  obtain ⟨pre, post, rfl, hk⟩ := hc.spec
  intro a w hf hb
  refine wpList_plain rfl fun K hK => ?_
  unfold Oper.wp
  rw [run_call hg (hf.ev hfo) (hf.eva has)]
  have sp : Split (pre ++ c :: post) [c] (pre ++ post) := Split.app (Split.none pre) (.kp rfl (Split.none post))
  refine (hC w _ (hb.pass sp)).mono fun x w' hx => ?_
  obtain ⟨i, rfl, hbi⟩ := hx
  refine hK _ _ (h i _ _ hf ((hb.back sp hbi).perm ?_))
  rw [hk]
  have h1 : (c' i :: X i ++ (pre ++ post)).Perm (X i ++ (c' i :: (pre ++ post))) := by simpa using (List.perm_middle (l₁ := X i) (a := c' i) (l₂ := pre ++ post)).symm
  exact h1.trans ((List.perm_middle (l₁ := pre) (a := c' i) (l₂ := post)).symm.append_left _)
/-- the same where the callee hands back a plain value and the chunk -/
def Ret1 (P : Program) (f : FuncId) (args : List Value) (C : Cx) (v : Value) (c : Chunk) : Prop := Sp P f args C (ι := Unit) (fun _ => v) (fun _ => [c]) (fun _ _ => True)
theorem WL.call1r {f : FuncId} {ars : List Operand} {ats : Array TypeId} {vs : List Value} {fo : Operand} {v : Value} {c c' : Chunk} {k : Chunk → List Chunk}
    (hg : GoFn P f) (hfo : EV e fo (.func (.func f) #[] #[])) (has : EVA e ars vs) (hc : Ins hs c k)
    (hC : ∀ w ds, Hb (C.sub w [c] ds) w [c] I → Ret1 P f vs (C.sub w [c] ds) v c') (hfr : fresh N e d = true)
    (h : WL P N C ops rest Q ((d, v) :: e) (k c') I) :
    WL P N C ops (⟨some d, .call ⟨.value fo, ars.toArray, ats⟩, ty, pos, af, none⟩ :: rest) Q e hs I :=
  WL.call1 (X := fun _ => []) hg hfo has hc hC hfr fun _ => WL.imp (fun _ h => h.1) h
theorem WL.call1rn {f : FuncId} {ars : List Operand} {ats : Array TypeId} {vs : List Value} {fo : Operand} {v : Value} {c c' : Chunk} {k : Chunk → List Chunk}
    (hg : GoFn P f) (hfo : EV e fo (.func (.func f) #[] #[])) (has : EVA e ars vs) (hc : Ins hs c k)
    (hC : ∀ w ds, Hb (C.sub w [c] ds) w [c] I → Ret1 P f vs (C.sub w [c] ds) v c')
    (h : WL P N C ops rest Q e (k c') I) :
    WL P N C ops (⟨none, .call ⟨.value fo, ars.toArray, ats⟩, ty, pos, af, none⟩ :: rest) Q e hs I :=
  WL.call1n (X := fun _ => []) hg hfo has hc hC fun _ => WL.imp (fun _ h => h.1) h

/-! ### Heads of a region that draws -/
theorem HD.mono {tail : List Oper} : ∀ (heads : List Oper) (e e' : Env), e.map (·.1) = e'.map (·.1) → (∀ a, Fr a N e → Fr a N e') → HD P N C ops Q tail hs I heads e' → HD P N C ops Q tail hs I heads e
  | [], _, _, _, hf, h => fun a w h1 h2 => h a w (hf a h1) h2
  | o :: r, e, e', hk, hf, h => by
    obtain ⟨v, h1, h2, h3⟩ := h
    have hkey : ∀ d, hasKey e d = hasKey e' d := fun d => by
      have : ∀ l : Env, hasKey l d = (l.map (·.1)).any (fun k => Nat.beq k d) := fun l => by
        induction l with
        | nil => rfl
        | cons p r ih => simp only [hasKey, List.any_cons, List.map_cons] at ih ⊢; rw [ih]
      rw [this, this, hk]
    refine ⟨v, fun a ha => h1 a (hf a ha), h2, HD.mono r _ _ ?_ ?_ h3⟩
    · cases hd : o.dst with
      | none => exact hk
      | some d =>
        by_cases hb : hasKey e d = true
        · rw [putE_keys hb, putE_keys (by rw [← hkey]; exact hb), hk]
        · have hb' : ¬ hasKey e' d = true := by rw [← hkey]; exact hb
          simp only [putE, hb, hb']
          simp [hk]
    · cases hd : o.dst with
      | none => exact hf
      | some d =>
        intro a ha
        by_cases hb : hasKey e d = true
        · -- the old value of the slot is put back, so that what is known of the others carries over
          have hb' : hasKey e' d = true := by rw [← hkey]; exact hb
          have hsub : ∀ q ∈ e', q.1 ≠ d → a.tmps.getD q.1 undef = q.2 := by
            have hex : ∃ u, (d, u) ∈ e := by
              simp only [hasKey, List.any_eq_true] at hb
              obtain ⟨p, hp, h4⟩ := hb
              exact ⟨p.2, by have := Nat.eq_of_beq_eq_true h4; rw [← this]; exact hp⟩
            obtain ⟨u, hu⟩ := hex
            have hdN : d < a.tmps.size := by
              rw [hd] at h2
              simp only [freshO] at h2
              rw [ha.size]
              simpa [inN, Nat.blt_eq] using h2
            have ha0 : Fr (a.put (some d) u) N e := by
              have hnd : (e.map (·.1)).Nodup := by rw [← putE_keys (v := v) hb]; exact ha.nd
              refine ⟨by simp [Act.put, ha.size], ha.defers, fun q hq => ?_, hnd⟩
              by_cases hqd : q.1 = d
              · have hq2 : q.2 = u := by
                  have h5 : ∀ (l : Env), (l.map (·.1)).Nodup → (d, u) ∈ l → q ∈ l → q.2 = u := by
                    intro l
                    induction l with
                    | nil => intro _ h; cases h
                    | cons p r ih =>
                      intro hn h6 h7
                      simp only [List.map_cons, List.nodup_cons] at hn
                      rcases List.mem_cons.1 h6 with h66 | h66
                      · rcases List.mem_cons.1 h7 with h77 | h77
                        · rw [h77, ← h66]
                        · exact absurd (show p.1 ∈ r.map (·.1) from List.mem_map.2 ⟨q, h77, by rw [hqd, ← h66]⟩) hn.1
                      · rcases List.mem_cons.1 h7 with h77 | h77
                        · exact absurd (show p.1 ∈ r.map (·.1) from List.mem_map.2 ⟨(d, u), h66, by rw [← h77, hqd]⟩) hn.1
                        · exact ih hn.2 h66 h77
                  exact h5 e hnd hu hq
                rw [hqd, hq2]
                simp [Act.put, hdN]
              · have h6 := ha.val q (by simp only [putE, hb, if_true]; exact List.mem_map.2 ⟨q, hq, by rw [if_neg hqd]⟩)
                simp only [Act.put, Array.getD_eq_getD_getElem?] at h6 ⊢
                rw [Array.getElem?_setIfInBounds_ne (Ne.symm hqd)]
                exact h6
            have h7 := hf _ ha0
            intro q hq hqd
            have h8 := h7.val q hq
            simp only [Act.put, Array.getD_eq_getD_getElem?] at h8 ⊢
            rwa [Array.getElem?_setIfInBounds_ne (Ne.symm hqd)] at h8
          refine ⟨ha.size, ha.defers, fun q hq => ?_, ?_⟩
          · simp only [putE, hb', if_true, List.mem_map] at hq
            obtain ⟨q0, hq0, rfl⟩ := hq
            by_cases hqd : q0.1 = d
            · rw [if_pos hqd]
              have : ((d, v) : Nat × Value) ∈ putE e (some d) v := by
                simp only [hasKey, List.any_eq_true] at hb
                obtain ⟨p, hp, h4⟩ := hb
                have h5 := Nat.eq_of_beq_eq_true h4
                have hb2 : hasKey e d = true := by simp only [hasKey, List.any_eq_true]; exact ⟨p, hp, h4⟩
                simp only [putE, hb2, if_true]
                exact List.mem_map.2 ⟨p, hp, by rw [if_pos h5]⟩
              exact ha.val _ this
            · rw [if_neg hqd]
              exact hsub q0 hq0 hqd
          · rw [putE_keys hb', ← hk, ← putE_keys (v := v) hb]
            exact ha.nd
        · have hb' : ¬ hasKey e' d = true := by rw [← hkey]; exact hb
          simp only [putE, hb, hb'] at ha ⊢
          simp only [Bool.false_eq_true, if_false] at ha ⊢
          have h4 := hf a ha.dr
          refine ⟨h4.size, h4.defers, fun p hp => ?_, ?_⟩
          · rcases List.mem_cons.1 hp with rfl | hp
            · exact ha.val _ List.mem_cons_self
            · exact h4.val p hp
          · have := ha.nd
            simp only [List.map_cons] at this ⊢
            rw [← hk]
            exact this
theorem upd_putE {d : Nat} {v : Value} (hu : Upd e d v e') (a : Act) (h : Fr a N (putE e (some d) v)) : Fr a N e' := by
  have hk : hasKey e d = true := by
    simp only [hasKey, List.any_eq_true]
    obtain ⟨p, hp, h1⟩ := List.mem_map.1 hu.mem_key
    exact ⟨p, hp, by rw [h1]; exact Nat.beq_refl d⟩
  have hnd : (e.map (·.1)).Nodup := by rw [← putE_keys (v := v) hk]; exact h.nd
  refine ⟨h.size, h.defers, fun p hp => ?_, by rw [hu.keys]; exact hnd⟩
  rcases hu.spec hnd p hp with rfl | ⟨h1, h2⟩
  · obtain ⟨q, hq, h3⟩ := List.mem_map.1 hu.mem_key
    refine h.val _ ?_
    simp only [putE, hk, if_true]
    exact List.mem_map.2 ⟨q, hq, by rw [if_pos h3]⟩
  · refine h.val p ?_
    simp only [putE, hk, if_true]
    exact List.mem_map.2 ⟨p, h1, by rw [if_neg h2]⟩
theorem HD.nil {tail : List Oper} (h : WL P N C ops tail Q e hs I) : HD P N C ops Q tail hs I [] e := h
theorem HD.mk {tail : List Oper} {o : Oper} {v : Value} (ho : o.dst = some d) (hh : Head P N C ops e hs I o v) (hfr : fresh N e d = true) (h : HD P N C ops Q tail hs I rest ((d, v) :: e)) : HD P N C ops Q tail hs I (o :: rest) e :=
  ⟨v, hh, by rw [ho]; exact fresh_inN hfr, by rw [ho, putE_fresh hfr]; exact h⟩
theorem HD.st {tail : List Oper} {op : Op} {v : Value} (ho : Run P N C e hs I ⟨some d, op, ty, pos, af, none⟩ v) (hfr : fresh N e d = true) (h : HD P N C ops Q tail hs I rest ((d, v) :: e)) :
    HD P N C ops Q tail hs I (⟨some d, op, ty, pos, af, none⟩ :: rest) e :=
  HD.mk rfl (fun a hf => .inr ⟨rfl, fun w hb => by rw [ho a w hf hb]; exact ⟨rfl, hb⟩⟩) hfr h
/-- a head that writes a slot of the list -/
theorem HD.up {tail : List Oper} {op : Op} {v : Value} (ho : Run P N C e hs I ⟨some d, op, ty, pos, af, none⟩ v) (hu : Upd e d v e') (hN : inN N d = true) (h : HD P N C ops Q tail hs I rest e') :
    HD P N C ops Q tail hs I (⟨some d, op, ty, pos, af, none⟩ :: rest) e := by
  refine ⟨v, fun a hf => .inr ⟨rfl, fun w hb => by rw [ho a w hf hb]; exact ⟨rfl, hb⟩⟩, hN, HD.mono rest _ e' ?_ (upd_putE hu) h⟩
  have hk : hasKey e d = true := by
    simp only [hasKey, List.any_eq_true]
    obtain ⟨p, hp, h1⟩ := List.mem_map.1 hu.mem_key
    exact ⟨p, hp, by rw [h1]; exact Nat.beq_refl d⟩
  show (putE e (some d) v).map (·.1) = _
  rw [putE_keys hk, hu.keys]
theorem HD.gy {tail : List Oper} {op : Op} {v : Value} {j s : Nat} {want : Bool} (hsl : gslot ops j = some s) (hl : Look e s (.bool want)) (ho : Run P N C e hs I ⟨some d, op, ty, pos, af, none⟩ v) (hfr : fresh N e d = true) (h : HD P N C ops Q tail hs I rest ((d, v) :: e)) :
    HD P N C ops Q tail hs I (⟨some d, op, ty, pos, af, some (j, want)⟩ :: rest) e :=
  HD.mk rfl (fun a hf => .inr ⟨by rw [wanted_of hf (o := ⟨some d, op, ty, pos, af, some (j, want)⟩) rfl hsl hl]; simp, fun w hb => by
    have h1 : (execOp a.eval ⟨some d, op, ty, pos, af, some (j, want)⟩) = execOp a.eval ⟨some d, op, ty, pos, af, none⟩ := rfl
    rw [h1, ho a w hf hb]; exact ⟨rfl, hb⟩⟩) hfr h
theorem HD.gn {tail : List Oper} {op : Op} {j s : Nat} {want : Bool} (hsl : gslot ops j = some s) (hl : Look e s (.bool (!want))) (hfr : fresh N e d = true) (h : HD P N C ops Q tail hs I rest ((d, undef) :: e)) :
    HD P N C ops Q tail hs I (⟨some d, op, ty, pos, af, some (j, want)⟩ :: rest) e :=
  HD.mk rfl (fun a hf => .inl ⟨by rw [wanted_of hf (o := ⟨some d, op, ty, pos, af, some (j, want)⟩) rfl hsl hl]; cases want <;> rfl, rfl⟩) hfr h
theorem HD.callr {tail : List Oper} {f : FuncId} {ars : List Operand} {ats : Array TypeId} {vs : List Value} {fo : Operand} {v : Value} (hg : GoFn P f) (hfo : EV e fo (.func (.func f) #[] #[])) (has : EVA e ars vs)
    (hC : ∀ w, Hb (C.sub w [] hs) w [] I → Ret P f vs (C.sub w [] hs) v) (hfr : fresh N e d = true) (h : HD P N C ops Q tail hs I rest ((d, v) :: e)) :
    HD P N C ops Q tail hs I (⟨some d, .call ⟨.value fo, ars.toArray, ats⟩, ty, pos, af, none⟩ :: rest) e :=
  HD.mk rfl (fun a hf => .inr ⟨rfl, fun w hb => by
    rw [run_call hg (hf.ev hfo) (hf.eva has)]
    refine (hC w (hb.pass (Split.none hs))).mono fun x w' hx => ?_
    obtain ⟨_, rfl, hbi⟩ := hx
    exact ⟨rfl, (hb.back (Split.none hs) hbi).imp fun _ h => h.1⟩⟩) hfr h
theorem HD.call1r {tail : List Oper} {f : FuncId} {ars : List Operand} {ats : Array TypeId} {vs : List Value} {fo : Operand} {v : Value} {c : Chunk} {k : Chunk → List Chunk} (hg : GoFn P f) (hfo : EV e fo (.func (.func f) #[] #[])) (has : EVA e ars vs)
    (hc : Ins hs c k) (hC : ∀ w ds, Hb (C.sub w [c] ds) w [c] I → Ret1 P f vs (C.sub w [c] ds) v c) (hfr : fresh N e d = true) (h : HD P N C ops Q tail hs I rest ((d, v) :: e)) :
    HD P N C ops Q tail hs I (⟨some d, .call ⟨.value fo, ars.toArray, ats⟩, ty, pos, af, none⟩ :: rest) e :=
  HD.mk rfl (fun a hf => .inr ⟨rfl, fun w hb => by
    obtain ⟨pre, post, rfl, hk⟩ := hc.spec
    have sp : Split (pre ++ c :: post) [c] (pre ++ post) := Split.app (Split.none pre) (.kp rfl (Split.none post))
    rw [run_call hg (hf.ev hfo) (hf.eva has)]
    refine (hC w _ (hb.pass sp)).mono fun x w' hx => ?_
    obtain ⟨_, rfl, hbi⟩ := hx
    exact ⟨rfl, ((hb.back sp hbi).perm (List.perm_middle (l₁ := pre) (a := c) (l₂ := post)).symm).imp fun _ h => h.1⟩⟩) hfr h

/-! ### Tests that are decided -/
theorem R.tt {o : Oper} {p : Prop} [Decidable p] (h : Run P N C e hs I o (.bool (decide p))) (hp : p) : Run P N C e hs I o (.bool true) := by simpa [hp] using h
theorem R.ff {o : Oper} {p : Prop} [Decidable p] (h : Run P N C e hs I o (.bool (decide p))) (hp : ¬ p) : Run P N C e hs I o (.bool false) := by simpa [hp] using h
theorem R.vq {o : Oper} {v v' : Value} (h : Run P N C e hs I o v) (hv : v = v') : Run P N C e hs I o v' := hv ▸ h
end

section
variable {P : Program} {N : Nat} {C : Cx} {e : Env} {hs : List Chunk} {I : World → Prop} {fn : Func} {ι : Type} {v : ι → Value} {H : ι → List Chunk} {F : ι → World → Prop}
/-- What the results hold: a slot, or a block of the call's own. -/
inductive RV (P : Program) (e : Env) (hs : List Chunk) : List ResultVar → List Value → Prop
  | nil : RV P e hs [] []
  | tmp {t : Nat} {x : Value} {rs : List ResultVar} {vs : List Value} : Look e t x → RV P e hs rs vs → RV P e hs (.tmp t :: rs) (x :: vs)
  | agg {t g tb ty n : Nat} {l : List Value} {rs : List ResultVar} {vs : List Value} : tAg P ty n = true → l.length = n → Look e t (.pointer (some ⟨g, 0, none⟩)) → Has hs (blk g tb l) → RV P e hs rs vs → RV P e hs (.cell t ty :: rs) (.agg l.toArray :: vs)
  | sc {t g tb ty : Nat} {x : Value} {l : List Value} {rs : List ResultVar} {vs : List Value} : tSc P ty = true → Look e t (.pointer (some ⟨g, 0, none⟩)) → Has hs (blk g tb (x :: l)) → RV P e hs rs vs → RV P e hs (.cell t ty :: rs) (x :: vs)
theorem RV.run {rs : List ResultVar} {vs : List Value} (h : RV P e hs rs vs) {a : Act} {w : World} (hf : Fr a N e) (hb : Hb C w hs I) :
    (rs.mapM fun (r : ResultVar) => match r with | .tmp t => (pure (a.tmps.getD t undef) : Sem Value) | .cell x t => do loadVar t (← asAddr (a.tmps.getD x undef))).run P w = .ok vs w := by
  induction h with
  | nil => simp
  | tmp hl _ ih => simp only [List.mapM_cons, Sem.run_bind, Sem.run_pure, Result.andThen_ok, hf.look hl, ih]
  | @agg t g tb ty n l rs vs ht hn hl hc _ ih =>
    have h2 := hb.has hc
    have h3 : (loadVar ty ⟨g, 0, none⟩).run P w = .ok (.agg l.toArray) w := run_loadVar_ag (by rw [hn]; exact ht) fun j v hj => by
      have h4 := blk_cell h2 hj
      unfold Addr.add
      split
      · rename_i h5; subst h5; exact h4
      · simpa using h4
    have h5 : asAddr (a.tmps.getD t undef) = pure ⟨g, 0, none⟩ := by rw [hf.look hl]; rfl
    simp only [List.mapM_cons, Sem.run_bind, Sem.run_pure, Result.andThen_ok, h5, h3, ih]
  | @sc t g tb ty x l rs vs ht hl hc _ ih =>
    have h2 := blk_cell (hb.has hc) (j := 0) (v := x) rfl
    have h5 : asAddr (a.tmps.getD t undef) = pure ⟨g, 0, none⟩ := by rw [hf.look hl]; rfl
    simp only [List.mapM_cons, Sem.run_bind, Sem.run_pure, Result.andThen_ok, h5, run_loadVar_sc ht h2, ih]

def resVal : List Value → Value
  | [x] => x
  | vs => .tuple vs.toArray
theorem QS.fin {z : Exit} (hz : z = .ret ∨ z = .normal) {ds : List Chunk} {rs : List ResultVar} {vs : List Value} (hr : fn.results = rs.toArray) (hrv : RV P e hs rs vs) (i : ι) (hv : resVal vs = v i) (hh : Split hs (H i) ds)
    (hI : ∀ w, I w → HAll w ds → F i w) : QS N C (bodyPost P fn fun x w' => ∃ i, x = .returned (v i) ∧ Hb C w' (H i) (F i)) z e hs I := by
  intro a w hf hb
  have h1 := hrv.run hf hb
  have h2 : (results fn a.tmps).run P w = .ok (resVal vs) w := by
    unfold results
    simp only [hr]
    rw [List.mapM_toArray]
    simp only [Sem.run_bind, Sem.run_map, Sem.run_pure]
    generalize hX : Sem.run P (List.mapM _ rs) w = X
    have hX' : X = .ok vs w := hX.symm.trans h1
    subst hX'
    simp only [Result.andThen_ok]
    match vs with
    | [] => rfl
    | [x] => rfl
    | x :: y :: r => rfl
  have : a.defers = [] ∧ ∃ u, (results fn a.tmps).run P w = .ok u w ∧ ∃ i, Ending.returned u = .returned (v i) ∧ Hb C w (H i) (F i) :=
    ⟨hf.defers, _, h2, i, by rw [hv], hb.weak hh hI⟩
  rcases hz with rfl | rfl <;> exact this
end

/-! ### Wraps -/
theorem wu8 {x : Int} (h1 : 0 ≤ x) (h2 : x ≤ 255) : IntKind.u8.wrap x = x := IntWalk.u8_in x ⟨h1, h2⟩
theorem wi32 {x : Int} (h1 : -2147483648 ≤ x) (h2 : x ≤ 2147483647) : IntKind.i32.wrap x = x := IntWalk.i32_in x ⟨h1, h2⟩
theorem wu64 {x : Int} (h1 : 0 ≤ x) (h2 : x ≤ 18446744073709551615) : IntKind.u64.wrap x = x := by
  simp [IntKind.wrap, IntKind.bits, IntKind.signed]; omega
theorem wu32 {x : Int} (h1 : 0 ≤ x) (h2 : x ≤ 4294967295) : IntKind.u32.wrap x = x := by
  simp [IntKind.wrap, IntKind.bits, IntKind.signed]; omega
end Go.Eng

/-
  The engine: entering, and more operations.
-/
namespace Go.Eng
open Go Go.RowKit

def entryEnv : List Value → Nat → Nat → Env
  | _, _, 0 => []
  | v :: vs, i, n + 1 => (i, v) :: entryEnv vs (i + 1) n
  | [], i, n + 1 => (i, undef) :: entryEnv [] (i + 1) n

theorem entry_spec {t : Array Value} : ∀ (n : Nat) (vs : List Value) (i : Nat), (∀ k, k < n → t.getD (i + k) undef = vs.getD k undef) → EnvOk t (entryEnv vs i n)
  | 0, vs, i, _ => by cases vs <;> trivial
  | n + 1, v :: vs, i, h => ⟨by have := h 0 (by omega); simpa using this, entry_spec n vs (i + 1) fun k hk => by
      have := h (k + 1) (by omega)
      rw [show i + (k + 1) = i + 1 + k by omega] at this
      simpa using this⟩
  | n + 1, [], i, h => ⟨by have := h 0 (by omega); simpa using this, entry_spec n [] (i + 1) fun k hk => by
      have := h (k + 1) (by omega)
      rw [show i + (k + 1) = i + 1 + k by omega] at this
      simpa using this⟩
theorem entry_ok {vs : List Value} {N n : Nat} (_hn : n ≤ N) (_hv : vs.length ≤ N) : EnvOk (vs.toArray ++ Array.replicate (N - vs.length) undef) (entryEnv vs 0 n) := by
  refine entry_spec n vs 0 fun k hk => ?_
  rw [Nat.zero_add]
  simp only [Array.getD_eq_getD_getElem?, List.getD_eq_getElem?_getD]
  by_cases h : k < vs.length
  · rw [Array.getElem?_append_left (by simpa using h)]
    simp
  · rw [Array.getElem?_append_right (by simpa using h)]
    rw [List.getElem?_eq_none (by omega)]
    simp
    rw [Array.getElem?_replicate]
    split <;> rfl
theorem entry_keys : ∀ (n : Nat) (vs : List Value) (i : Nat), (entryEnv vs i n).map (·.1) = List.range' i n
  | 0, vs, i => by cases vs <;> rfl
  | n + 1, v :: vs, i => by simp [entryEnv, entry_keys n vs (i + 1), List.range'_succ]
  | n + 1, [], i => by simp [entryEnv, entry_keys n [] (i + 1), List.range'_succ]
theorem entry_nd (vs : List Value) (n : Nat) {i : Nat} : ((entryEnv vs i n).map (·.1)).Nodup := by
  rw [entry_keys]
  exact List.nodup_range' 1

def tBo (P : Program) (t : TypeId) : Bool := match P.underlying t with | some .bool => true | _ => false
def tPt (P : Program) (t : TypeId) : Bool := match P.underlying t with | some (.pointer _) => true | _ => false
def AppTy (P : Program) (t el size bytes : Nat) : Prop := ∃ i0 z, P.underlying t = some (.slice el) ∧ P.info? el = some i0 ∧ i0.zero = some z ∧ i0.size = size ∧ i0.bytes = bytes ∧ z.cells.size = size ∧ 0 < size

section
variable {P : Program} {N : Nat} {C : Cx} {Q : Exit → Act → World → Prop} {e e' : Env} {hs hs' : List Chunk} {I J : World → Prop}

theorem W.cdt {c : Operand} {x y : Code} {p : Prop} [Decidable p] (hc : EV e c (.bool (decide p))) (hp : p) (h : W P N C x Q e hs I) : W P N C (.cond c x y) Q e hs I :=
  W.cd hc (fun _ => h) (fun hn => absurd hp hn)
theorem W.cdf {c : Operand} {x y : Code} {p : Prop} [Decidable p] (hc : EV e c (.bool (decide p))) (hp : ¬ p) (h : W P N C y Q e hs I) : W P N C (.cond c x y) Q e hs I :=
  W.cd hc (fun hn => absurd hn hp) (fun _ => h)

section
variable {d : Option Tmp} {ty : TypeId} {pos : String} {af : Array Edge} {gd : Option (Nat × Bool)}
theorem run_bin_eq {t : TypeId} {a b : Value} {r : Bool} {w : World} (h : ∀ n : Nat, (Op.equalIn (n + 1) t a b).run P w = .ok r w) : (Op.equal t a b).run P w = .ok r w := by
  have := h 9999
  simpa [Op.equal, Op.maxDepth] using this
theorem R.eqb {x y : Operand} {tx tyy : TypeId} {a b : Bool} (ht : tBo P tx = true) (hx : EV e x (.bool a)) (hy : EV e y (.bool b)) : Run P N C e hs I ⟨d, .binOp .eql tx x y tyy, ty, pos, af, gd⟩ (.bool (decide (a = b))) := fun A w hf _ => by
  unfold tBo at ht
  split at ht
  · rename_i hu
    have hb : (a == b) = decide (a = b) := by cases a <;> cases b <;> rfl
    have h3 := run_bin_eq (P := P) (w := w) (t := tx) (a := .bool a) (b := .bool b) (r := decide (a = b)) fun n => by simp [Op.equalIn, run_underlying hu, hb]
    simp only [execOp, eqGuard, hf.ev hx, hf.ev hy, binOp]
    simp [h3]
  · cases ht
theorem R.neb {x y : Operand} {tx tyy : TypeId} {a b : Bool} (ht : tBo P tx = true) (hx : EV e x (.bool a)) (hy : EV e y (.bool b)) : Run P N C e hs I ⟨d, .binOp .neq tx x y tyy, ty, pos, af, gd⟩ (.bool (decide (a ≠ b))) := fun A w hf _ => by
  unfold tBo at ht
  split at ht
  · rename_i hu
    have hb : (a == b) = decide (a = b) := by cases a <;> cases b <;> rfl
    have h3 := run_bin_eq (P := P) (w := w) (t := tx) (a := .bool a) (b := .bool b) (r := decide (a = b)) fun n => by simp [Op.equalIn, run_underlying hu, hb]
    simp only [execOp, eqGuard, hf.ev hx, hf.ev hy, binOp]
    simp [h3]
  · cases ht
theorem R.eqpn {x y : Operand} {tx tyy : TypeId} {a : Addr} (ht : tPt P tx = true) (hx : EV e x (.pointer (some a))) (hy : EV e y (.pointer none) := by exact .c) : Run P N C e hs I ⟨d, .binOp .eql tx x y tyy, ty, pos, af, gd⟩ (.bool false) := fun A w hf _ => by
  unfold tPt at ht
  split at ht
  · rename_i hu
    have h3 := run_bin_eq (P := P) (w := w) (t := tx) (a := .pointer (some a)) (b := .pointer none) (r := false) fun n => by simp [Op.equalIn, run_underlying hu]
    simp only [execOp, eqGuard, hf.ev hx, hf.ev hy, binOp]
    simp [h3]
  · cases ht
theorem R.nepn {x y : Operand} {tx tyy : TypeId} {a : Addr} (ht : tPt P tx = true) (hx : EV e x (.pointer (some a))) (hy : EV e y (.pointer none) := by exact .c) : Run P N C e hs I ⟨d, .binOp .neq tx x y tyy, ty, pos, af, gd⟩ (.bool true) := fun A w hf _ => by
  unfold tPt at ht
  split at ht
  · rename_i hu
    have h3 := run_bin_eq (P := P) (w := w) (t := tx) (a := .pointer (some a)) (b := .pointer none) (r := false) fun n => by simp [Op.equalIn, run_underlying hu]
    simp only [execOp, eqGuard, hf.ev hx, hf.ev hy, binOp]
    simp [h3]
  · cases ht

def tFz (P : Program) (s f n : Nat) : Bool := match P.underlying s with
  | some (.struct fs) => (match fs[f]? with | some x => tSz P x.type n | none => false)
  | _ => false
/-- the parts of a composite value, each laid at its field -/
inductive Parts (P : Program) (s : Nat) (e : Env) : List Value → List (Nat × Operand) → List Value → Prop
  | nil {z : List Value} : Parts P s e z [] z
  | cons {z z1 z2 : List Value} {f o n : Nat} {x : Operand} {v : Value} {vs : List Value} {r : List (Nat × Operand)} : tFo P s f o = true → tFz P s f n = true → vs.length = n → EV e x v → v.cells = vs.toArray → LPut z o vs z1 → Parts P s e z1 r z2 → Parts P s e z ((f, x) :: r) z2
theorem foldl_put (vs : List Value) : ∀ (k : Nat) (cs : Array Value), k + vs.length ≤ cs.size → ((vs.zipIdx k).foldl (fun cs (p : Value × Nat) => cs.setIfInBounds p.2 p.1) cs).toList = cs.toList.take k ++ vs ++ cs.toList.drop (k + vs.length) := by
  induction vs with
  | nil => intro k cs _; simp
  | cons v r ih =>
    intro k cs hk
    simp only [List.length_cons] at hk
    simp only [List.zipIdx_cons, List.foldl_cons]
    rw [ih (k + 1) _ (by simp; omega)]
    have hkl : k < cs.toList.length := by simp; omega
    simp only [Array.toList_setIfInBounds]
    rw [List.take_set, List.drop_set_of_lt (by omega)]
    rw [List.set_eq_take_append_cons_drop, if_pos (by simp; omega)]
    simp only [List.take_take, List.length_cons]
    rw [Nat.min_eq_left (by omega), List.drop_take]
    simp [show k + 1 + r.length = k + (r.length + 1) by omega]
theorem foldl_put' (vs : List Value) (o : Nat) (cs : Array Value) (h : o + vs.length ≤ cs.size) :
    (vs.toArray.zipIdx.foldl (fun cs (c, j) => cs.setIfInBounds (o + j) c) cs).toList = cs.toList.take o ++ vs ++ cs.toList.drop (o + vs.length) := by
  have key : ∀ (vs : List Value) (k : Nat) (cs : Array Value), ((vs.zipIdx k).foldl (fun cs (p : Value × Nat) => cs.setIfInBounds (o + p.2) p.1) cs) = ((vs.zipIdx (o + k)).foldl (fun cs (p : Value × Nat) => cs.setIfInBounds p.2 p.1) cs) := by
    intro vs
    induction vs with
    | nil => intro k cs; rfl
    | cons v r ih => intro k cs; simp only [List.zipIdx_cons, List.foldl_cons]; exact ih (k + 1) _
  have h1 := foldl_put vs o cs h
  have h2 := key vs 0 cs
  simp only [Nat.add_zero] at h2
  rw [← h1, ← h2]
  simp
theorem run_mapM_places {P : Program} {fs : List Field} {w : World} (h : ∀ f : Field, f ∈ fs → ∃ i, P.info? f.type = some i) :
    ∃ pl : List (Nat × Nat), (fs.mapM fun (f : Field) => do pure (f.offset, ← sizeOf f.type)).run P w = .ok pl w ∧ pl = fs.map fun (f : Field) => (f.offset, ((P.info? f.type).map (·.size)).getD 0) := by
  induction fs with
  | nil => exact ⟨[], by simp, rfl⟩
  | cons f r ih =>
    obtain ⟨pl, h1, h2⟩ := ih fun g hg => h g (List.mem_cons_of_mem _ hg)
    obtain ⟨i, hi⟩ := h f List.mem_cons_self
    refine ⟨(f.offset, i.size) :: pl, ?_, by simp [h2, hi]⟩
    have h3 : ∀ w, (sizeOf f.type).run P w = .ok i.size w := fun w => by simp [sizeOf, typeInfo, hi]
    simp only [List.mapM_cons, Sem.run_bind, h3, Result.andThen_ok, Sem.run_pure]
    rw [h1]
    rfl
def tStruct (P : Program) (fs : Array Field) : Bool := fs.all fun f => (P.info? f.type).isSome
theorem R.bld {s : TypeId} {fs : Array Field} {parts : List (Nat × Operand)} {z l : List Value} (hs1 : P.underlying s = some (.struct fs)) (hall : tStruct P fs = true) (hz : tZ P s z) (hp : Parts P s e z parts l) :
    Run P N C e hs I ⟨d, .build s parts.toArray, ty, pos, af, gd⟩ (.agg l.toArray) := fun A w hf _ => by
  obtain ⟨i, zv, h1, h2, h3⟩ := hz
  obtain ⟨pl, hpl, hpl2⟩ := run_mapM_places (P := P) (w := w) (fs := fs.toList) fun f hf => by
    have := Array.all_eq_true_iff_forall_mem.1 hall f (by simpa using hf)
    exact Option.isSome_iff_exists.1 this
  have hplA : (fs.mapM fun (f : Field) => do pure (f.offset, ← sizeOf f.type)).run P w = .ok pl.toArray w := by
    rw [← Array.toArray_toList (xs := fs), List.mapM_toArray]
    simp only [Sem.run_map]
    rw [hpl]
    rfl
  have hfill : ∀ (z : List Value) (parts : List (Nat × Operand)) (l : List Value), Parts P s e z parts l → Instr.fill (pl.toArray[·]?) z.toArray (parts.map fun (i, x) => (i, A.eval x)) = some l.toArray := by
    intro z parts l hp
    induction hp with
    | nil => rfl
    | @cons z z1 z2 f o n x v vs r hfo hfz hn hx hv hput _ ih =>
      obtain ⟨fs', x', i', h4, h5, h6, h7, h8⟩ := tFo_spec hfo
      have : fs' = fs := by
        have := h4.symm.trans hs1
        injection this with this
        injection this
      subst this
      have hsz : i'.size = vs.length := by
        unfold tFz at hfz
        rw [hs1] at hfz
        simp only [h5] at hfz
        obtain ⟨i2, h9, h10⟩ := tSz_spec hfz
        have : i2 = i' := Option.some.inj (h9.symm.trans h6)
        rw [← this, h10, hn]
      have hsp := hput.spec
      have hpf : (pl.toArray[f]? : Option (Nat × Nat)) = some (o, i'.size) := by
        have hfx : fs'.toList[f]? = some x' := by simpa using h5
        simp [hpl2, hfx, h6, h8]
      have hvs : A.eval x = v := hf.ev hx
      simp only [List.map_cons, Instr.fill, hpf, hvs, hv]
      rw [if_neg (by simp [hsz]; omega)]
      have h11 : vs.toArray.zipIdx.foldl (fun cs (c, j) => cs.setIfInBounds (o + j) c) z.toArray = z1.toArray := by
        apply Array.ext'
        rw [foldl_put' vs o z.toArray (by simpa using hsp.1)]
        simpa using hsp.2.symm
      rw [h11]
      exact ih
  have h12 := hfill z parts l hp
  simp only [execOp, Instr.build, zeroValue, typeInfo]
  simp at hplA h12
  simp [h1, h2, h3, run_underlying hs1, hplA, h12]
end

section
variable {d : Tmp} {ty : TypeId} {pos : String} {af : Array Edge} {ops : Array Oper} {rest : List Oper}
theorem WL.allocu {t : Nat} {z : List Value} {E : Nat → Env} (hz : tZ P t z) (hu : ∀ g, Upd e d (.pointer (some ⟨g, 0, none⟩)) (E g)) (hN : inN N d = true)
    (h : ∀ g, WL P N C ops rest Q (E g) (blk g t z :: hs) I) : WL P N C ops (⟨some d, .alloc t, ty, pos, af, none⟩ :: rest) Q e hs I := by
  intro a w hf hb
  obtain ⟨i, v, h1, h2, h3⟩ := hz
  have hr : (execOp a.eval ⟨some d, .alloc t, ty, pos, af, none⟩).run P w = .ok (.value (.pointer (some ⟨w.heap.size, 0, none⟩))) (w.alloc (.cells z.toArray t)) := by
    simp [execOp, Instr.alloc, zeroValue, typeInfo, h1, h2, newVar, newRow, h3]
  exact wl_step rfl hr (h w.heap.size _ _ (hf.upd (hu _) hN) (hb.alloc _))
theorem WL.boxu {t : Nat} {x : Operand} {v : Value} {l : List Value} {E : Nat → Env} (hx : EV e x v) (hl : v.cells = l.toArray) (hu : ∀ g, Upd e d (.pointer (some ⟨g, 0, none⟩)) (E g)) (hN : inN N d = true)
    (h : ∀ g, WL P N C ops rest Q (E g) (blk g t l :: hs) I) : WL P N C ops (⟨some d, .box t x, ty, pos, af, none⟩ :: rest) Q e hs I := by
  intro a w hf hb
  have hr : (execOp a.eval ⟨some d, .box t x, ty, pos, af, none⟩).run P w = .ok (.value (.pointer (some ⟨w.heap.size, 0, none⟩))) (w.alloc (.cells l.toArray t)) := by
    simp [execOp, Instr.box, newVar, newRow, hf.ev hx, hl]
  exact wl_step rfl hr (h w.heap.size _ _ (hf.upd (hu _) hN) (hb.alloc _))
theorem WL.app' {t el size bytes : Nat} {x y : Operand} {A A2 : Option Addr} {n c m c2 : Nat} {xs news : List Value} {hsF : Option Addr → Nat → List Chunk}
    (ht : AppTy P t el size bytes) (hx : EV e x (.slice A n c)) (hy : EV e y (.slice A2 m c2)) (hrow : ∀ A' c', Cup hs (.row (.slice A n c) el size n xs) (.row (.slice A' (n + m) c') el size (n + m) (xs ++ news)) (hsF A' c'))
    (hsrc : ∀ w, Hb C w hs I → Rd w A2 size m news) (h1 : oneCells news = true) (h63 : n + m ≤ maxLen) (hbytes : (n + m) * bytes ≤ 140737488355328) (hfr : fresh N e d = true)
    (h : ∀ A' c', WL P N C ops rest Q ((d, .slice A' (n + m) c') :: e) (hsF A' c') I) :
    WL P N C ops (⟨some d, .call ⟨.builtin .append, #[x, y], #[t, t]⟩, ty, pos, af, none⟩ :: rest) Q e hs I := by
  obtain ⟨i0, z, h2, h3, h4, h5, h6, h7, h8⟩ := ht
  exact WL.app h2 h3 h4 h5 h6 h7 h8 hx hy hrow hsrc h1 h63 hbytes hfr h
end
end

theorem tZ_mk {P : Program} {t : Nat} {z : List Value} (h : ((P.info? t).bind fun i => i.zero.map (·.cells)) = some z.toArray) : tZ P t z := by
  cases hi : P.info? t with
  | none => rw [hi] at h; cases h
  | some i =>
    rw [hi] at h
    simp only [Option.bind_some] at h
    cases hz : i.zero with
    | none => rw [hz] at h; cases h
    | some v => rw [hz] at h; exact ⟨i, v, hi, hz, by simpa using h⟩
theorem app_mk {P : Program} {t el size bytes : Nat} (h1 : P.underlying t = some (.slice el)) (h : ((P.info? el).bind fun i => i.zero.map fun z => (z.cells.size, i.size, i.bytes)) = some (size, size, bytes)) (h0 : 0 < size) : AppTy P t el size bytes := by
  cases hi : P.info? el with
  | none => rw [hi] at h; cases h
  | some i =>
    rw [hi] at h
    simp only [Option.bind_some] at h
    cases hz : i.zero with
    | none => rw [hz] at h; cases h
    | some v =>
      rw [hz] at h
      simp only [Option.map_some, Option.some.injEq, Prod.mk.injEq] at h
      exact ⟨i, v, h1, hi, hz, h.2.1, h.2.2, h.1, h0⟩
end Go.Eng

/-
  The engine: make, copy, bytes.
-/
namespace Go.Eng
open Go Go.RowKit

def bcells (l : List UInt8) : List Value := l.map fun b => .int .u8 (b.toNat : Int)
def icells (l : List Int) : List Value := l.map (.int .i64)
theorem bcells_length (l : List UInt8) : (bcells l).length = l.length := by simp [bcells]
theorem icells_length (l : List Int) : (icells l).length = l.length := by simp [icells]
theorem bcells_get {l : List UInt8} {j : Nat} {b : UInt8} (h : l[j]? = some b) : (bcells l)[j]? = some (.int .u8 (b.toNat : Int)) := by simp [bcells, h]
theorem icells_get {l : List Int} {j : Nat} {b : Int} (h : l[j]? = some b) : (icells l)[j]? = some (.int .i64 b) := by simp [icells, h]
theorem bcells_one (l : List UInt8) : oneCells (bcells l) = true := by
  simp [oneCells, bcells, Value.oneCell']
theorem icells_one (l : List Int) : oneCells (icells l) = true := by
  simp [oneCells, icells, Value.oneCell']
/-- bytes, ints -/
def RdB (w : World) (A : Option Addr) (l : List UInt8) : Prop := Rd w A 1 l.length (bcells l)
def RdI (w : World) (A : Option Addr) (l : List Int) : Prop := Rd w A 1 l.length (icells l)
theorem RdB.cell {w : World} {A : Option Addr} {l : List UInt8} (h : RdB w A l) {j : Nat} {b : UInt8} (hj : l[j]? = some b) : cellA w A j (.int .u8 (b.toNat : Int)) := Rd.cell h (bcells_get hj)
theorem RdI.cell {w : World} {A : Option Addr} {l : List Int} (h : RdI w A l) {j : Nat} {b : Int} (hj : l[j]? = some b) : cellA w A j (.int .i64 b) := Rd.cell h (icells_get hj)
theorem RdB.ne {w : World} {A : Option Addr} {l : List UInt8} (h : RdB w A l) (hn : 0 < l.length) : A ≠ none := Rd.ne h (by rw [bcells_length]; exact hn)
theorem RdI.ne {w : World} {A : Option Addr} {l : List Int} (h : RdI w A l) (hn : 0 < l.length) : A ≠ none := Rd.ne h (by rw [icells_length]; exact hn)
theorem RdB.cut {w : World} {A : Option Addr} {l : List UInt8} {c a b : Nat} (h : RdB w A l) (hc : l.length ≤ c) (hab : a ≤ b) (hb : b ≤ l.length) : RdB w (cutA A c a 1) ((l.drop a).take (b - a)) := by
  have hl : ((l.drop a).take (b - a)).length = b - a := by simp; omega
  unfold RdB
  rw [hl]
  refine Rd.cut h hc (k := a) (m := b - a) (by omega) ?_
  simp [bcells]
theorem RdI.cut {w : World} {A : Option Addr} {l : List Int} {c a b : Nat} (h : RdI w A l) (hc : l.length ≤ c) (hab : a ≤ b) (hb : b ≤ l.length) : RdI w (cutA A c a 1) ((l.drop a).take (b - a)) := by
  have hl : ((l.drop a).take (b - a)).length = b - a := by simp; omega
  unfold RdI
  rw [hl]
  refine Rd.cut h hc (k := a) (m := b - a) (by omega) ?_
  simp [icells]

section
variable {P : Program} {N : Nat} {C : Cx} {Q : Exit → Act → World → Prop} {e e' : Env} {hs hs' : List Chunk} {I J : World → Prop}
section
variable {d : Option Tmp} {ty : TypeId} {pos : String} {af : Array Edge} {gd : Option (Nat × Bool)}
/-- a byte of a slice, the address and the load -/
theorem R.ixB {tx el : TypeId} {x y : Operand} {A : Option Addr} {l : List UInt8} {n c j : Nat} {k : IntKind} {i : Int} (ht : tSl P tx el 1 = true) (hx : EV e x (.slice A n c)) (hn : n = l.length) (hy : EV e y (.int k i)) (hij : i = (j : Int)) (hj : j < l.length)
    (hA : ∀ w, Hb C w hs I → RdB w A l) : Run P N C e hs I ⟨d, .indexAddr tx x y, ty, pos, af, gd⟩ (ptA A j) := by
  have := R.ixa (P := P) (N := N) (C := C) (e := e) (hs := hs) (I := I) (d := d) (ty := ty) (pos := pos) (af := af) (gd := gd) ht hx hy hij (by omega) fun w hb => (hA w hb).ne (by omega)
  simpa using this
theorem R.ixI {tx el : TypeId} {x y : Operand} {A : Option Addr} {l : List Int} {n c j : Nat} {k : IntKind} {i : Int} (ht : tSl P tx el 1 = true) (hx : EV e x (.slice A n c)) (hn : n = l.length) (hy : EV e y (.int k i)) (hij : i = (j : Int)) (hj : j < l.length)
    (hA : ∀ w, Hb C w hs I → RdI w A l) : Run P N C e hs I ⟨d, .indexAddr tx x y, ty, pos, af, gd⟩ (ptA A j) := by
  have := R.ixa (P := P) (N := N) (C := C) (e := e) (hs := hs) (I := I) (d := d) (ty := ty) (pos := pos) (af := af) (gd := gd) ht hx hy hij (by omega) fun w hb => (hA w hb).ne (by omega)
  simpa using this
end

section
variable {d : Tmp} {ty : TypeId} {pos : String} {af : Array Edge} {ops : Array Oper} {rest : List Oper}
theorem madeCells_one (z : Value) (n : Nat) : (madeCells #[z] n) = (List.replicate n z).toArray := by
  apply Array.ext'
  apply List.ext_getElem
  · simp [madeCells]
  · intro i h1 h2
    simp [madeCells, Nat.mod_one]
/-- 'make([]T, n, c)', T of one cell -/
theorem WL.mks {t el by_ : Nat} {x y : Operand} {z : Value} {m r : Int} {n c : Nat} {kl kc : IntKind} (ht : AppTy P t el 1 by_) (hz : tZ P el [z]) (hx : EV e x (.int kl m)) (hy : EV e y (.int kc r)) (hm : m = (n : Int)) (hr : r = (c : Int)) (hnc : n ≤ c)
    (hby : by_ * c ≤ 281474976710656) (h63 : c ≤ 9223372036854775807) (hfr : fresh N e d = true)
    (h : ∀ g, WL P N C ops rest Q ((d, .slice (some ⟨g, 0, none⟩) n c) :: e) (blk g el (List.replicate c z) :: hs) I) :
    WL P N C ops (⟨some d, .makeSlice t x y, ty, pos, af, none⟩ :: rest) Q e hs I := by
  subst hm hr
  intro a w hf hb
  obtain ⟨i0, z0, h2, h3, h4, h5, h6, h7, h8⟩ := ht
  obtain ⟨i1, z1, h9, h10, h11⟩ := hz
  have : i1 = i0 := Option.some.inj (h9.symm.trans h3)
  subst this
  have : z1 = z0 := Option.some.inj (h10.symm.trans h4)
  subst this
  have hb1 : (i1.bytes : Int) * (c : Int) ≤ 281474976710656 := by
    have : ((i1.bytes * c : Nat) : Int) ≤ 281474976710656 := by rw [h6]; omega
    rwa [Int.natCast_mul] at this
  have hr0 := run_make (P := P) w t el i1 z1 h2 h3 h4 kl kc n c (by omega) (by omega) hb1 (by omega)
  rw [h11, h5] at hr0
  simp only [Int.toNat_natCast, Nat.mul_one] at hr0
  rw [show ([z].toArray : Array Value) = #[z] from rfl, madeCells_one] at hr0
  have hr : (execOp a.eval ⟨some d, .makeSlice t x y, ty, pos, af, none⟩).run P w = .ok (.value (.slice (some ⟨w.heap.size, 0, none⟩) n c)) (w.alloc (.cells (List.replicate c z).toArray el)) := by
    simp [execOp, hf.ev hx, hf.ev hy, hr0]
  exact wl_step rfl hr (h w.heap.size _ _ (hf.put hfr) (hb.alloc _))
/-- 'copy(dst, src)' that fills a row of the call's own -/
theorem WL.cpyf {t t2 el : TypeId} {x y : Operand} {g tb n c c2 : Nat} {A2 : Option Addr} {l news : List Value} (ht : tSl P t el 1 = true) (hx : EV e x (.slice (some ⟨g, 0, none⟩) n c)) (hy : EV e y (.slice A2 n c2))
    (hc : Cup hs (blk g tb l) (blk g tb news) hs') (hl : l.length = n) (hsrc : ∀ w, Hb C w hs I → Rd w A2 1 n news) (h1 : oneCells news = true) (hfr : fresh N e d = true)
    (h : WL P N C ops rest Q ((d, .int .i64 (n : Int)) :: e) hs' I) : WL P N C ops (⟨some d, .call ⟨.builtin .copy, #[x, y], #[t, t2]⟩, ty, pos, af, none⟩ :: rest) Q e hs I := by
  intro a w hf hb
  have hh := hb.hp.hold _ hc.mem
  have hg : w.heap[g]? = some (.cells l.toArray tb (0, 0)) := hh
  have hs1 := hsrc w hb
  have hnl : news.length = n := by simpa using hs1.1
  have hu := (tSl_spec ht).1
  obtain ⟨i0, hi0, hsz⟩ := tSz_spec (tSl_spec ht).2
  have hone : ∀ v ∈ news, v.oneCell' = true := fun u hu => by simpa using List.all_eq_true.1 h1 u hu
  have hrun : ∃ w', (Builtin.copy_ #[t, t2] ty #[.slice (some ⟨g, 0, none⟩) n c, .slice A2 n c2]).run P w = .ok (.int .i64 (n : Int)) w' ∧ w' = w.setRow g news.toArray := by
    cases A2 with
    | none =>
      have h0 : news = [] := by
        rcases List.eq_nil_or_concat news with h2 | h2
        · exact h2
        · obtain ⟨l, b, rfl⟩ := h2
          obtain ⟨ad, h3, _⟩ := hs1.2 (by simp)
          cases h3
      subst h0
      have hn0 : n = 0 := by simpa using hnl.symm
      subst hn0
      have hl0 : l = [] := List.eq_nil_of_length_eq_zero hl
      subst hl0
      refine ⟨w, by simp [Builtin.copy_, run_underlying hu, Builtin.lenOf, Builtin.firstCells, sizeOf, typeInfo, hi0, storeCells, goInt], ?_⟩
      have : w.heap.modify g (fun | .cells _ elem frozen => .cells #[] elem frozen | o => o) = w.heap := by
        apply Array.ext_getElem?
        intro k
        rw [Array.getElem?_modify]
        split
        · rename_i hk
          subst hk
          rw [hg]
          rfl
        · rfl
      show w = w.setRow g #[]
      unfold World.setRow
      cases w
      simp only [World.mk.injEq, and_true]
      first | exact this.symm | (refine Eq.symm ?_; exact this)
    | some ad =>
      have := run_copy_row (P := P) w t t2 ty el g 0 n c ad n c2 l.toArray tb news hu (by rw [hi0]; simp [hsz]) hg (by rw [hnl]; exact (Nat.min_self n).symm) (fun j v hj => by
        obtain ⟨ad', h6, h7⟩ := hs1.cell hj
        injection h6 with h6
        subst h6
        exact h7) (by simp [hnl, hl]) hone
      refine ⟨_, by rw [this, hnl]; rfl, ?_⟩
      have hd : l.drop n = [] := List.drop_eq_nil_of_le (by omega)
      simp [hd]
  obtain ⟨w', hr0, rfl⟩ := hrun
  have hr : (execOp a.eval ⟨some d, .call ⟨.builtin .copy, #[x, y], #[t, t2]⟩, ty, pos, af, none⟩).run P w = .ok (.value (.int .i64 (n : Int))) (w.setRow g news.toArray) := by
    simp [execOp, resolve, invoke, builtin, hf.ev hx, hf.ev hy, hr0]
  exact wl_step rfl hr (h _ _ (hf.put hfr) (hb.turn hc (ext_setRow hh) (setRow_holds hh) (fun _ hg => .inl hg)))
end
end
end Go.Eng

/-
  The engine: tests inside a region that draws; bits.
-/
namespace Go.Eng
open Go Go.RowKit

section
variable {P : Program} {N : Nat} {C : Cx} {Q : Exit → Act → World → Prop} {e e' : Env} {hs : List Chunk} {I : World → Prop} {ops : Array Oper} {tail : List Oper}

theorem Fr.same {s : Nat} {v v' : Value} (hl : Look e s v) (hv : v = v') (hu : Upd e s v' e') (a : Act) (h : Fr a N e) : Fr a N e' := by
  subst hv
  refine ⟨h.size, h.defers, ?_, by rw [hu.keys]; exact h.nd⟩
  intro q hq
  rcases hu.spec h.nd q hq with rfl | ⟨h3, _⟩
  · exact h.look hl
  · exact h.val q h3
theorem HD.cd {heads : List Oper} {s : Nat} {p : Prop} [Decidable p] {e1 e2 : Env} (hl : Look e s (.bool (decide p))) (h1 : Upd e s (.bool true) e1) (h2 : Upd e s (.bool false) e2)
    (ht : p → HD P N C ops Q tail hs I heads e1) (hf : ¬ p → HD P N C ops Q tail hs I heads e2) : HD P N C ops Q tail hs I heads e := by
  by_cases h : p
  · exact HD.mono heads e e1 h1.keys.symm (fun a ha => Fr.same hl (by simp [h]) h1 a ha) (ht h)
  · exact HD.mono heads e e2 h2.keys.symm (fun a ha => Fr.same hl (by simp [h]) h2 a ha) (hf h)
theorem HD.cb {heads : List Oper} {s : Nat} {b : Bool} {e1 e2 : Env} (hl : Look e s (.bool b)) (h1 : Upd e s (.bool true) e1) (h2 : Upd e s (.bool false) e2)
    (ht : b = true → HD P N C ops Q tail hs I heads e1) (hf : b = false → HD P N C ops Q tail hs I heads e2) : HD P N C ops Q tail hs I heads e :=
  HD.cd (p := b = true) (by simpa using hl) h1 h2 ht (fun h => hf (by simpa using h))
theorem HD.rw {heads : List Oper} {s : Nat} {v v' : Value} (hl : Look e s v) (hv : v = v') (h1 : Upd e s v' e') (h : HD P N C ops Q tail hs I heads e') : HD P N C ops Q tail hs I heads e :=
  HD.mono heads e e' h1.keys.symm (fun a ha => Fr.same hl hv h1 a ha) h
end

section
variable {P : Program} {N : Nat} {C : Cx} {Q : Exit → Act → World → Prop} {e : Env} {hs : List Chunk} {I : World → Prop}
theorem W.scope {c : Code} (h : W P N C c (Exit.noGoto Q) e hs I) : W P N C (.scope c) Q e hs I := fun a w hf hb => wp_scope_straight (h a w hf hb)
theorem W.label {l : Nat} (h : QS N C Q .normal e hs I) : W P N C (.label l) Q e hs I := fun a w hf hb => wp_label (h a w hf hb)
theorem QS.ngn (h : QS N C Q .normal e hs I) : QS N C (Exit.noGoto Q) .normal e hs I := h
theorem QS.ngx {i : Nat} (h : QS N C Q (.exit i) e hs I) : QS N C (Exit.noGoto Q) (.exit i) e hs I := h
theorem QS.ngr (h : QS N C Q .ret e hs I) : QS N C (Exit.noGoto Q) .ret e hs I := h
end

section
variable {P : Program} {N : Nat} {C : Cx} {Q : Exit → Act → World → Prop} {e : Env} {hs : List Chunk} {I : World → Prop}
theorem Hb.nilrow {w : World} (h : Hb C w hs I) (t size : Nat) : Hb C w (.row (.slice none 0 0) t size 0 [] :: hs) I := by
  refine h.step (Ext.refl _ _ _) ?_ ?_ (List.pairwise_cons.2 ⟨fun d _ g hg => by simp [Chunk.blk, Value.ownBlock] at hg, h.hp.apart⟩)
  · intro c hc
    rcases List.mem_cons.1 hc with rfl | hc
    · exact World.ownsRow_nil _ _ _ _
    · exact h.hp.hold c hc
  · intro c hc g hg
    rcases List.mem_cons.1 hc with rfl | hc
    · simp [Chunk.blk, Value.ownBlock] at hg
    · exact .inl ⟨c, hc, hg⟩
/-- A nil slice may be appended to. -/
theorem W.nilrow {c : Code} (t size : Nat) (h : W P N C c Q e (.row (.slice none 0 0) t size 0 [] :: hs) I) : W P N C c Q e hs I := fun a w hf hb => h a w hf (hb.nilrow t size)
theorem WL.nilrow {ops : Array Oper} {l : List Oper} (t size : Nat) (h : WL P N C ops l Q e (.row (.slice none 0 0) t size 0 [] :: hs) I) : WL P N C ops l Q e hs I := fun a w hf hb => h a w hf (hb.nilrow t size)
end

/-! ### bits -/
theorem bits_back {op : BinOp} {k : IntKind} {m n r : Int} (h : Op.intBits op k m n = pure (.int k (k.wrap r))) (hr : k.wrap r = r) : Op.intBits op k m n = pure (.int k r) := by rw [h, hr]
theorem ofInt64 {m : Nat} (hm : m < 18446744073709551616) : (BitVec.ofInt 64 (m : Int)).toNat = m := by
  rw [BitVec.ofInt_natCast, BitVec.toNat_ofNat]
  exact Nat.mod_eq_of_lt (by omega)
theorem eu64_and {m n : Nat} (hm : m < 18446744073709551616) (hn : n < 18446744073709551616) : Op.intBits .and .u64 (m : Int) (n : Int) = pure (.int .u64 ((m &&& n : Nat) : Int)) := by
  have h1 : m &&& n ≤ m := Nat.and_le_left
  have h2 : (BitVec.ofInt 64 (m : Int) &&& BitVec.ofInt 64 (n : Int)).toNat = m &&& n := by rw [BitVec.toNat_and, ofInt64 hm, ofInt64 hn]
  show pure (Value.int .u64 (IntKind.u64.wrap ((BitVec.ofInt 64 (m : Int) &&& BitVec.ofInt 64 (n : Int)).toNat : Int))) = _
  rw [h2, wu64 (by omega) (by omega)]
theorem eu64_or {m n : Nat} (hm : m < 18446744073709551616) (hn : n < 18446744073709551616) : Op.intBits .or .u64 (m : Int) (n : Int) = pure (.int .u64 ((m ||| n : Nat) : Int)) := by
  have h1 : m ||| n < 2 ^ 64 := Nat.or_lt_two_pow (by omega) (by omega)
  have h2 : (BitVec.ofInt 64 (m : Int) ||| BitVec.ofInt 64 (n : Int)).toNat = m ||| n := by rw [BitVec.toNat_or, ofInt64 hm, ofInt64 hn]
  show pure (Value.int .u64 (IntKind.u64.wrap ((BitVec.ofInt 64 (m : Int) ||| BitVec.ofInt 64 (n : Int)).toNat : Int))) = _
  rw [h2, wu64 (by omega) (by omega)]
theorem ofInt8 {m : Nat} (hm : m < 256) : (BitVec.ofInt 8 (m : Int)).toNat = m := by
  rw [BitVec.ofInt_natCast, BitVec.toNat_ofNat]
  exact Nat.mod_eq_of_lt (by omega)
theorem eu8_and {m n : Nat} (hm : m < 256) (hn : n < 256) : Op.intBits .and .u8 (m : Int) (n : Int) = pure (.int .u8 ((m &&& n : Nat) : Int)) := by
  have h1 : m &&& n ≤ m := Nat.and_le_left
  have h2 : (BitVec.ofInt 8 (m : Int) &&& BitVec.ofInt 8 (n : Int)).toNat = m &&& n := by rw [BitVec.toNat_and, ofInt8 hm, ofInt8 hn]
  show pure (Value.int .u8 (IntKind.u8.wrap ((BitVec.ofInt 8 (m : Int) &&& BitVec.ofInt 8 (n : Int)).toNat : Int))) = _
  rw [h2, wu8 (by omega) (by omega)]
theorem eu8_or {m n : Nat} (hm : m < 256) (hn : n < 256) : Op.intBits .or .u8 (m : Int) (n : Int) = pure (.int .u8 ((m ||| n : Nat) : Int)) := by
  have h1 : m ||| n < 2 ^ 8 := Nat.or_lt_two_pow (by omega) (by omega)
  have h2 : (BitVec.ofInt 8 (m : Int) ||| BitVec.ofInt 8 (n : Int)).toNat = m ||| n := by rw [BitVec.toNat_or, ofInt8 hm, ofInt8 hn]
  show pure (Value.int .u8 (IntKind.u8.wrap ((BitVec.ofInt 8 (m : Int) ||| BitVec.ofInt 8 (n : Int)).toNat : Int))) = _
  rw [h2, wu8 (by omega) (by omega)]
theorem and_low (m s : Nat) : m &&& (2 ^ s - 1) = m % 2 ^ s := Nat.and_two_pow_sub_one_eq_mod m s
theorem or_add {a b s : Nat} (h : a < 2 ^ s) : a ||| (b * 2 ^ s) = a + b * 2 ^ s := by
  have := Nat.shiftLeft_add_eq_or_of_lt h b
  rw [Nat.shiftLeft_eq] at this
  rw [Nat.or_comm, ← this]
  omega
end Go.Eng

/-
  The engine: arrays in a block, nil pointers, long lists of cells.
-/
namespace Go.Eng
open Go Go.RowKit

theorem LPut.right {a r r' vs : List Value} {k : Nat} (h : LPut r k vs r') : LPut (a ++ r) (a.length + k) vs (a ++ r') := by
  induction a with
  | nil => simpa using h
  | cons x a ih =>
    have : (x :: a).length + k = (a.length + k) + 1 := by simp only [List.length_cons]; omega
    rw [this]
    exact .skip ih
theorem LPut.at_ {a r r' vs l l' : List Value} {k n : Nat} (h : LPut r k vs r') (hl : l = a ++ r) (hl' : l' = a ++ r') (hn : n = a.length + k) : LPut l n vs l' := by
  subst hl hl' hn
  exact h.right
theorem LPut.more {r r' vs b : List Value} {k : Nat} (h : LPut r k vs r') : LPut (r ++ b) k vs (r' ++ b) := by
  induction h with
  | zero => exact .zero
  | here _ ih => exact .here ih
  | skip _ ih => exact .skip ih
theorem LGet.right {a r vs : List Value} {k n : Nat} (h : LGet r k n vs) : LGet (a ++ r) (a.length + k) n vs := by
  induction a with
  | nil => simpa using h
  | cons x a ih =>
    have : (x :: a).length + k = (a.length + k) + 1 := by simp only [List.length_cons]; omega
    rw [this]
    exact .skip ih
theorem LGet.more {r vs b : List Value} {k n : Nat} (h : LGet r k n vs) : LGet (r ++ b) k n vs := by
  induction h with
  | zero => exact .zero
  | here _ ih => exact .here ih
  | skip _ ih => exact .skip ih

/-- Rows of a fixed width, one behind the other. -/
def flat {α : Type} (f : α → List Value) (l : List α) : List Value := l.flatMap f
theorem flat_length {α : Type} {f : α → List Value} {n : Nat} (hf : ∀ x, (f x).length = n) (l : List α) : (flat f l).length = l.length * n := by
  induction l with
  | nil => simp [flat]
  | cons x r ih =>
    have : flat f (x :: r) = f x ++ flat f r := rfl
    rw [this, List.length_append, ih, hf, List.length_cons, Nat.succ_mul]
    omega
theorem flat_split {α : Type} {f : α → List Value} {l : List α} {i : Nat} {x : α} (h : l[i]? = some x) : flat f l = flat f (l.take i) ++ (f x ++ flat f (l.drop (i + 1))) := by
  obtain ⟨h1, h2⟩ := List.getElem?_eq_some_iff.1 h
  have h3 : l = l.take i ++ (x :: l.drop (i + 1)) := by
    conv => lhs; rw [← List.take_append_drop i l, List.drop_eq_getElem_cons h1, h2]
  conv => lhs; rw [h3]
  simp [flat]
theorem flat_get {α : Type} {f : α → List Value} {n : Nat} (hf : ∀ x, (f x).length = n) {l : List α} {b : List Value} {i k : Nat} {x : α} (h : l[i]? = some x) {v : Value} (hv : (f x)[k]? = some v) : (flat f l ++ b)[i * n + k]? = some v := by
  have hi := (List.getElem?_eq_some_iff.1 h).1
  have hk := (List.getElem?_eq_some_iff.1 hv).1
  rw [flat_split h, List.append_assoc]
  have hl : (flat f (l.take i)).length = i * n := by rw [flat_length hf]; congr 1; simp; omega
  rw [List.getElem?_append_right (by omega), hl, show i * n + k - i * n = k by omega, List.append_assoc, List.getElem?_append_left hk]
  exact hv
theorem flat_lget {α : Type} {f : α → List Value} {n : Nat} (hf : ∀ x, (f x).length = n) {l : List α} {b : List Value} {i k m : Nat} {x : α} (h : l[i]? = some x) {vs : List Value} (hv : LGet (f x) k m vs) : LGet (flat f l ++ b) (i * n + k) m vs := by
  have hi := (List.getElem?_eq_some_iff.1 h).1
  rw [flat_split h, List.append_assoc]
  have hl : (flat f (l.take i)).length = i * n := by rw [flat_length hf]; congr 1; simp; omega
  have := LGet.right (a := flat f (l.take i)) (LGet.more (b := flat f (l.drop (i + 1)) ++ b) hv)
  rw [hl] at this
  rw [List.append_assoc]
  exact this
theorem flat_set {α : Type} {f : α → List Value} {l : List α} {i : Nat} {x y : α} (h : l[i]? = some x) : flat f (l.set i y) = flat f (l.take i) ++ (f y ++ flat f (l.drop (i + 1))) := by
  have h1 := (List.getElem?_eq_some_iff.1 h).1
  rw [List.set_eq_take_append_cons_drop, if_pos h1]
  simp [flat]
theorem flat_put {α : Type} {f : α → List Value} {n : Nat} (hf : ∀ x, (f x).length = n) {l : List α} {b : List Value} {i k : Nat} {x y : α} (h : l[i]? = some x) {vs : List Value} (hv : LPut (f x) k vs (f y)) :
    LPut (flat f l ++ b) (i * n + k) vs (flat f (l.set i y) ++ b) := by
  have hi := (List.getElem?_eq_some_iff.1 h).1
  rw [flat_split h, flat_set h, List.append_assoc, List.append_assoc, List.append_assoc, List.append_assoc]
  have hl : (flat f (l.take i)).length = i * n := by rw [flat_length hf]; congr 1; simp; omega
  have := LPut.right (a := flat f (l.take i)) (LPut.more (b := flat f (l.drop (i + 1)) ++ b) hv)
  rw [hl] at this
  exact this
theorem LPut.whole {l l' : List Value} (h : l.length = l'.length) : LPut l 0 l' l' := by
  induction l generalizing l' with
  | nil => cases l' with
    | nil => exact .zero
    | cons _ _ => cases h
  | cons x r ih => cases l' with
    | nil => cases h
    | cons y s => exact .here (ih (by simpa using h))

def tAr (P : Program) (t el n s : Nat) : Bool := (match P.underlying t with | some (.array n' e') => Nat.beq n n' && Nat.beq el e' | _ => false) && tSz P el s
theorem tAr_spec {P : Program} {t el n s : Nat} (h : tAr P t el n s = true) : P.underlying t = some (.array n el) ∧ tSz P el s = true := by
  unfold tAr at h
  simp only [Bool.and_eq_true] at h
  refine ⟨?_, h.2⟩
  have h1 := h.1
  split at h1
  · rename_i n' e' he
    simp only [Bool.and_eq_true] at h1
    have h2 : n = n' := Nat.eq_of_beq_eq_true h1.1
    have h3 : el = e' := Nat.eq_of_beq_eq_true h1.2
    rw [h2, h3]; exact he
  · cases h1
section
variable {P : Program} {N : Nat} {C : Cx} {e : Env} {hs : List Chunk} {I : World → Prop}
variable {d : Option Tmp} {ty : TypeId} {pos : String} {af : Array Edge} {gd : Option (Nat × Bool)}
/-- an element of an array that lies in a block -/
theorem R.ixr {tx el n s g o j r : Nat} {x y : Operand} {k : IntKind} {i : Int} (ht : tAr P tx el n s = true) (hx : EV e x (.pointer (some ⟨g, o, none⟩))) (hy : EV e y (.int k i)) (hij : i = (j : Int)) (hj : j < n) (hr : o + j * s = r) :
    Run P N C e hs I ⟨d, .indexAddr tx x y, ty, pos, af, gd⟩ (.pointer (some ⟨g, r, none⟩)) := fun A w hf _ => by
  subst hij hr
  obtain ⟨hu, hz⟩ := tAr_spec ht
  have h1 : (0 : Int) ≤ (j : Int) ∧ (j : Int) < (n : Int) := ⟨by omega, by omega⟩
  have h2 : (⟨g, o, none⟩ : Addr).add (j * s) = ⟨g, o + j * s, none⟩ := by
    unfold Addr.add
    split
    · rename_i h; rw [h]; rfl
    · rfl
  simp [execOp, Instr.indexAt, asIntOf, run_underlying hu, hf.ev hx, hf.ev hy, Instr.sureAddr, hj, run_sizeOf' hz, h2]
theorem R.eqnn {x y : Operand} {tx tyy : TypeId} (ht : tPt P tx = true) (hx : EV e x (.pointer none)) (hy : EV e y (.pointer none) := by exact .c) : Run P N C e hs I ⟨d, .binOp .eql tx x y tyy, ty, pos, af, gd⟩ (.bool true) := fun A w hf _ => by
  unfold tPt at ht
  split at ht
  · rename_i hu
    have h3 := run_bin_eq (P := P) (w := w) (t := tx) (a := .pointer none) (b := .pointer none) (r := true) fun n => by simp [Op.equalIn, run_underlying hu]
    simp only [execOp, eqGuard, hf.ev hx, hf.ev hy, binOp]
    simp [h3]
  · cases ht
theorem R.nenn {x y : Operand} {tx tyy : TypeId} (ht : tPt P tx = true) (hx : EV e x (.pointer none)) (hy : EV e y (.pointer none) := by exact .c) : Run P N C e hs I ⟨d, .binOp .neq tx x y tyy, ty, pos, af, gd⟩ (.bool false) := fun A w hf _ => by
  unfold tPt at ht
  split at ht
  · rename_i hu
    have h3 := run_bin_eq (P := P) (w := w) (t := tx) (a := .pointer none) (b := .pointer none) (r := true) fun n => by simp [Op.equalIn, run_underlying hu]
    simp only [execOp, eqGuard, hf.ev hx, hf.ev hy, binOp]
    simp [h3]
  · cases ht
end
end Go.Eng

/-
  The engine: a range over a string; contracts from elsewhere.
-/
namespace Go.Eng
open Go Go.RowKit

theorem setObj_holds {w : World} {g : Nat} {o o' : Obj} (h : (Chunk.obj g o).holds w) : (Chunk.obj g o').holds { w with heap := w.heap.setIfInBounds g o' } := by
  have h1 : w.heap[g]? = some o := h
  have hlt := (Array.getElem?_eq_some_iff.1 h1).1
  show (w.heap.setIfInBounds g o')[g]? = some o'
  simp [hlt]
theorem ext_setObj {w : World} {g : Nat} {o o' : Obj} : Ext (fun _ => False) [.obj g o] w { w with heap := w.heap.setIfInBounds g o' } := by
  refine ⟨rfl, rfl, rfl, by simp, fun k _ _ hf => ?_⟩
  have : k ≠ g := fun e => hf (.obj g o) (by simp) (by rw [e]; rfl)
  show (w.heap.setIfInBounds g o')[k]? = _
  rw [Array.getElem?_setIfInBounds, if_neg (fun e => this e.symm)]

section
variable {P : Program} {N : Nat} {C : Cx} {Q : Exit → Act → World → Prop} {e : Env} {hs hs' : List Chunk} {I : World → Prop}
variable {d : Tmp} {ty : TypeId} {pos : String} {af : Array Edge} {ops : Array Oper} {rest : List Oper}
theorem WL.rangeS {t : Nat} {x : Operand} {s : ByteArray} (ht : tStr P t = true) (hx : EV e x (.string s)) (hfr : fresh N e d = true)
    (h : ∀ g, WL P N C ops rest Q ((d, .pointer (some ⟨g, 0, none⟩)) :: e) (.obj g (.stringIter s 0) :: hs) I) : WL P N C ops (⟨some d, .range t x, ty, pos, af, none⟩ :: rest) Q e hs I := by
  intro a w hf hb
  have hu : P.underlying t = some .string := by
    unfold tStr at ht
    split at ht
    · assumption
    · cases ht
  have hr : (execOp a.eval ⟨some d, .range t x, ty, pos, af, none⟩).run P w = .ok (.value (.pointer (some ⟨w.heap.size, 0, none⟩))) (w.alloc (.stringIter s 0)) := by
    have := run_range_string w t s hu
    simp only [execOp, hf.ev hx]
    simp [this, Result.andThen, World.iter]
  exact wl_step rfl hr (h w.heap.size _ _ (hf.put hfr) (hb.alloc _))
theorem WL.nextS {x : Operand} {g p : Nat} {s : ByteArray} (hx : EV e x (.pointer (some ⟨g, 0, none⟩))) (hc : p < s.size → Cup hs (.obj g (.stringIter s p)) (.obj g (.stringIter s (p + (Utf8.decode s p).2))) hs')
    (hm : (Chunk.obj g (.stringIter s p)) ∈ hs) (hfr : fresh N e d = true)
    (h : p < s.size → WL P N C ops rest Q ((d, .tuple #[.bool true, .int .i64 (p : Int), .int .i32 ((Utf8.decode s p).1 : Int)]) :: e) hs' I)
    (h2 : ¬ p < s.size → WL P N C ops rest Q ((d, .tuple #[.bool false]) :: e) hs I) : WL P N C ops (⟨some d, .next x true, ty, pos, af, none⟩ :: rest) Q e hs I := by
  intro a w hf hb
  have hh : (Chunk.obj g (.stringIter s p)).holds w := hb.hp.hold _ hm
  have hg : w.heap[g]? = some (.stringIter s p) := hh
  by_cases hp : p < s.size
  · have hr : (execOp a.eval ⟨some d, .next x true, ty, pos, af, none⟩).run P w = .ok (.value (.tuple #[.bool true, .int .i64 (p : Int), .int .i32 ((Utf8.decode s p).1 : Int)])) { w with heap := w.heap.setIfInBounds g (.stringIter s (p + (Utf8.decode s p).2)) } := by
      simp [execOp, hf.ev hx, Instr.next, getObj, setObj, Sem.run, hg, hp, goInt, Result.andThen, Sem.run_bind]
    exact wl_step rfl hr (h hp _ _ (hf.put hfr) (hb.turn (hc hp) ext_setObj (setObj_holds hh) (fun _ hg => .inl hg)))
  · have hr : (execOp a.eval ⟨some d, .next x true, ty, pos, af, none⟩).run P w = .ok (.value (.tuple #[.bool false])) w := by
      simp [execOp, hf.ev hx, Instr.next, getObj, Sem.run, hg, hp, Result.andThen, Sem.run_bind]
    exact wl_step rfl hr (h2 hp _ _ (hf.put hfr) hb)
/-- A contract from elsewhere: a value is returned and nothing of the old has turned. -/
theorem Ret.of_calls {f : FuncId} {args : List Value} {v : Value} (hb : Hb C C.w0 [] I) (h : Calls P f args.toArray C.w0 fun e w' => e = .returned v ∧ Below C.w0.heap.size C.w0 w') : Ret P f args C v := by
  refine Calls.mono h ?_
  rintro e w' ⟨rfl, hb2⟩
  exact ⟨(), rfl, (hb.grow ⟨hb2.os, hb2.tape, hb2.output, hb2.size, fun k hk _ _ => hb2.block k hk⟩).imp fun _ _ => trivial⟩
end
theorem wanted_undef {N : Nat} {e : Env} {ops : Array Oper} {o : Oper} {j s : Nat} {want : Bool} {a : Act} (hf : Fr a N e) (hgd : o.guard = some (j, want)) (hs : gslot ops j = some s) (hl : Look e s undef) :
    Region.wanted o (yielded ops a.tmps) = false := by
  have h1 := hf.look hl
  unfold gslot at hs
  simp only [Region.wanted, hgd, yielded, hs, Option.bind_some]
  cases h : a.tmps[s]? with
  | none => rfl
  | some x =>
    rw [Array.getD_eq_getD_getElem?, h] at h1
    have h2 : x = undef := by simpa using h1
    subst h2
    rfl
section
variable {P : Program} {N : Nat} {C : Cx} {Q : Exit → Act → World → Prop} {e : Env} {hs : List Chunk} {I : World → Prop}
/-- The guard itself was left out: so is what it guards. -/
theorem WL.gu {ops : Array Oper} {rest : List Oper} {d : Tmp} {op : Op} {ty : TypeId} {pos : String} {af : Array Edge} {j s : Nat} {want : Bool}
    (hsl : gslot ops j = some s) (hl : Look e s undef) (hfr : fresh N e d = true) (h : WL P N C ops rest Q ((d, undef) :: e) hs I) :
    WL P N C ops (⟨some d, op, ty, pos, af, some (j, want)⟩ :: rest) Q e hs I := by
  intro a w hf hb
  refine wpList_step fun K hK => ?_
  rw [wanted_undef hf (o := ⟨some d, op, ty, pos, af, some (j, want)⟩) rfl hsl hl]
  simp only [Bool.false_eq_true, if_false]
  exact hK _ _ (h _ _ (hf.put hfr) hb)
theorem HD.gu {ops : Array Oper} {rest tail : List Oper} {d : Tmp} {ty : TypeId} {pos : String} {af : Array Edge} {op : Op} {j s : Nat} {want : Bool} (hsl : gslot ops j = some s) (hl : Look e s undef) (hfr : fresh N e d = true) (h : HD P N C ops Q tail hs I rest ((d, undef) :: e)) :
    HD P N C ops Q tail hs I (⟨some d, op, ty, pos, af, some (j, want)⟩ :: rest) e :=
  HD.mk rfl (fun _ hf => .inl ⟨wanted_undef hf (o := ⟨some d, op, ty, pos, af, some (j, want)⟩) rfl hsl hl, rfl⟩) hfr h
theorem WL.gyw {ops : Array Oper} {rest : List Oper} {d : Option Tmp} {op : Op} {ty : TypeId} {pos : String} {af : Array Edge} {j s : Nat} {want : Bool}
    (hsl : gslot ops j = some s) (hl : Look e s (.bool want)) (h : WL P N C ops (⟨d, op, ty, pos, af, none⟩ :: rest) Q e hs I) :
    WL P N C ops (⟨d, op, ty, pos, af, some (j, want)⟩ :: rest) Q e hs I := by
  intro a w hf hb
  have h0 := h a w hf hb
  unfold wpList at h0 ⊢
  rw [wanted_of hf (o := ⟨d, op, ty, pos, af, some (j, want)⟩) rfl hsl hl]
  rw [show Region.wanted (⟨d, op, ty, pos, af, none⟩ : Oper) (yielded ops a.tmps) = true from rfl, if_pos rfl] at h0
  simp only [beq_self_eq_true, if_true]
  exact h0
end
end Go.Eng

/-
  The engine: regions that draw, each order walked.
-/
namespace Go.Eng
open Go Go.RowKit
section
variable {P : Program} {N : Nat} {C : Cx} {Q : Exit → Act → World → Prop} {e : Env} {hs : List Chunk} {I : World → Prop}
/-- What is left of a region that draws, in whatever order. -/
def WA (P : Program) (N : Nat) (C : Cx) (ops : Array Oper) (Q : Exit → Act → World → Prop) (fuel : Nat) (listed : Array Bool) (e : Env) (hs : List Chunk) (I : World → Prop) : Prop :=
  ∀ a w, Fr a N e → Hb C w hs I → wpAny P .any ops Q fuel listed a w
/-- Each of these may be the next. -/
def Nx (P : Program) (N : Nat) (C : Cx) (ops : Array Oper) (Q : Exit → Act → World → Prop) (fuel : Nat) (listed : Array Bool) (e : Env) (hs : List Chunk) (I : World → Prop) : List Nat → Prop
  | [] => True
  | i :: r => (∃ o, ops[i]? = some o ∧ WL P N C ops [o] (Exit.then (wpAny P .any ops Q fuel (listed.setIfInBounds i true)) Q) e hs I) ∧ Nx P N C ops Q fuel listed e hs I r
variable {ops : Array Oper} {fuel : Nat} {listed : Array Bool}
theorem upon_then {o : Oper} {a : Act} {w : World} {K : Act → World → Prop} (h : o.wp P a w K (Exit.then K Q)) : o.wp P a w K Q := by
  unfold Oper.wp at *
  generalize (execOp a.eval o).run P w = r at *
  cases r with
  | ok n w' => cases n <;> exact h
  | halt x w' => cases x <;> exact h
theorem WA.op {i : Nat} {o : Oper} {K : Act → World → Prop} (ho : ops[i]? = some o) (h : WL P N C ops [o] (Exit.then K Q) e hs I) : ∀ a w, Fr a N e → Hb C w hs I → wpOp P ops Q i K a w := by
  intro a w hf hb
  have h0 := h a w hf hb
  unfold wpList at h0
  unfold wpOp
  simp only [ho]
  by_cases hw : Region.wanted o (yielded ops a.tmps)
  · rw [if_pos hw] at h0 ⊢
    rcases h0 with h0 | h0
    · exact .inl (upon_then h0)
    · exact .inr h0
  · rw [if_neg hw] at h0 ⊢
    exact h0
theorem Nx.all {R : List Nat} (h : Nx P N C ops Q fuel listed e hs I R) : ∀ i ∈ R, ∃ o, ops[i]? = some o ∧ WL P N C ops [o] (Exit.then (wpAny P .any ops Q fuel (listed.setIfInBounds i true)) Q) e hs I := by
  induction R with
  | nil => intro i hi; cases hi
  | cons j r ih =>
    intro i hi
    rcases List.mem_cons.1 hi with rfl | hi
    · exact h.1
    · exact ih h.2 i hi
theorem WA.more (R : List Nat) (hr : Region.ready .any ops listed = R) (hne : R ≠ []) (h : Nx P N C ops Q fuel listed e hs I R) : WA P N C ops Q (fuel + 1) listed e hs I := by
  intro a w hf hb
  refine ⟨fun h0 => absurd (hr.symm.trans h0) hne, fun i hi => ?_⟩
  obtain ⟨o, ho, h1⟩ := h.all i (by rw [← hr]; exact hi)
  exact WA.op ho h1 a w hf hb
theorem WA.next (h : WA P N C ops Q fuel listed e hs I) : QS N C (Exit.then (wpAny P .any ops Q fuel listed) Q) .normal e hs I := h
theorem WA.done (hr : Region.ready .any ops listed = []) (h : QS N C Q .normal e hs I) : WA P N C ops Q 0 listed e hs I := fun a w hf hb => ⟨hr, h a w hf hb⟩
theorem W.any {id n : Nat} (hm : P.follows .mixedOrders = true) (hn : ops.size = n) (h : WA P N C ops Q n (Array.replicate n false) e hs I) : W P N C (.region id ops true) Q e hs I := by
  intro a w hf hb
  subst hn
  exact wp_region_any hm (h a _ hf hb.drew)
end
end Go.Eng

/-
  The engine: slices of several constants.
-/
namespace Go.Eng
open Go Go.RowKit
section
variable {P : Program} {N : Nat} {C : Cx} {Q : Exit → Act → World → Prop} {e : Env} {hs : List Chunk} {I : World → Prop}
variable {d : Tmp} {ty : TypeId} {pos : String} {af : Array Edge} {ops : Array Oper} {rest : List Oper}
theorem WL.bsc {t el n m : Nat} {parts : Array (Nat × Operand)} {pv : List (Nat × Value)} {z l : List Value} (ht : tSl P t el n = true) (hz : tZ P el z) (h0 : m * n ≠ 0) (hsm : m * n ≤ 16777216)
    (hp : ∀ a : Act, parts.map (fun p => (p.1, a.eval p.2)) = pv.toArray)
    (hfill : Instr.fill (fun i => some (i * n, n)) ((Array.range (m * n)).map (z.toArray[· % z.toArray.size]!)) pv = some l.toArray) (hfr : fresh N e d = true)
    (h : ∀ g, WL P N C ops rest Q ((d, .slice (some ⟨g, 0, none⟩) m m) :: e) (blk g el l :: hs) I) :
    WL P N C ops (⟨some d, .buildSlice t m parts, ty, pos, af, none⟩ :: rest) Q e hs I := by
  intro a w hf hb
  obtain ⟨i, zv, h1, h2, h3⟩ := hz
  have hu := (tSl_spec ht).1
  have hsz := run_sizeOf' (tSl_spec ht).2 w
  have hr : (execOp a.eval ⟨some d, .buildSlice t m parts, ty, pos, af, none⟩).run P w = .ok (.value (.slice (some ⟨w.heap.size, 0, none⟩) m m)) (w.alloc (.cells l.toArray el)) := by
    have hb2 : (Instr.buildSlice t m (parts.map fun p => (p.1, a.eval p.2))).run P w = .ok (.slice (some ⟨w.heap.size, 0, none⟩) m m) (w.alloc (.cells l.toArray el)) := by
      rw [hp a]
      rw [← h3] at hfill
      have hbig : ¬ m * n > 2 ^ 24 := by omega
      simp only [Instr.buildSlice, Sem.run_bind, run_underlying hu, Result.andThen, hsz, hbig, if_false, h0]
      simp [zeroValue, typeInfo, h1, h2, hfill, newRow]
    simp only [execOp]
    simp [hb2]
  exact wl_step rfl hr (h w.heap.size _ _ (hf.put hfr) (hb.alloc _))
end
end Go.Eng
