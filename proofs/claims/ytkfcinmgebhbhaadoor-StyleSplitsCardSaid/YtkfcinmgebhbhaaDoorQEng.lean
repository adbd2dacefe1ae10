/-
  What is known of a frame and of the heap while a walk goes on. Rows that only grow keep what they hold.
  Nothing here names a program: all is over any 'P'.
-/
import Derived.WalkKit
import Derived.WalkSpells
import Derived.WalkLawsBesides
import Derived.StillTail
namespace Go.Eng
open Go Go.RowKit

abbrev Env := List (Nat × Value)

inductive Look : Env → Nat → Value → Prop
  | here {k : Nat} {v : Value} {r : Env} : Look ((k, v) :: r) k v
  | there {x : Nat × Value} {k : Nat} {v : Value} {r : Env} : Look r k v → Look (x :: r) k v

theorem Look.mem {e : Env} {k : Nat} {v : Value} (h : Look e k v) : (k, v) ∈ e := by
  induction h with
  | here => exact List.mem_cons_self
  | there _ ih => exact List.mem_cons_of_mem _ ih

inductive EV : Env → Operand → Value → Prop
  | t {e : Env} {k : Nat} {v : Value} : Look e k v → EV e (.tmp k) v
  | c {e : Env} {v : Value} : EV e (.const v) v
  | g {e : Env} {n : Nat} : EV e (.global n) (.pointer (some ⟨n, 0, none⟩))
  | f {e : Env} {n : Nat} : EV e (.func n) (.func (.func n) #[] #[])

inductive EVA : Env → List Operand → List Value → Prop
  | nil {e : Env} : EVA e [] []
  | cons {e : Env} {x : Operand} {v : Value} {xs : List Operand} {vs : List Value} : EV e x v → EVA e xs vs → EVA e (x :: xs) (v :: vs)

/-- What is known of a frame. -/
structure Fr (a : Act) (N : Nat) (e : Env) : Prop where
  size : a.tmps.size = N
  defers : a.defers = []
  val : ∀ p ∈ e, a.tmps.getD p.1 undef = p.2
  nd : (e.map (·.1)).Nodup

theorem Fr.look {a : Act} {N : Nat} {e : Env} (h : Fr a N e) {k : Nat} {v : Value} (hl : Look e k v) : a.tmps.getD k undef = v := h.val _ hl.mem

theorem Fr.ev {a : Act} {N : Nat} {e : Env} (h : Fr a N e) {x : Operand} {v : Value} (hx : EV e x v) : a.eval x = v := by
  cases hx with
  | t hl => exact h.look hl
  | c => rfl
  | g => rfl
  | f => rfl

theorem Fr.eva {a : Act} {N : Nat} {e : Env} (h : Fr a N e) {xs : List Operand} {vs : List Value} (hx : EVA e xs vs) : xs.map a.eval = vs := by
  induction hx with
  | nil => rfl
  | cons hv _ ih => simp [h.ev hv, ih]

def fresh (N : Nat) (e : Env) (d : Nat) : Bool := Nat.blt d N && e.all fun p => !Nat.beq p.1 d

theorem fresh_lt {N : Nat} {e : Env} {d : Nat} (h : fresh N e d = true) : d < N := by
  simp only [fresh, Bool.and_eq_true] at h
  simpa [Nat.blt_eq] using h.1
theorem fresh_not {N : Nat} {e : Env} {d : Nat} (h : fresh N e d = true) : d ∉ e.map (·.1) := by
  simp only [fresh, Bool.and_eq_true, List.all_eq_true] at h
  intro hm
  obtain ⟨p, hp, rfl⟩ := List.mem_map.1 hm
  have := h.2 p hp
  simp at this

theorem Fr.put {a : Act} {N : Nat} {e : Env} (h : Fr a N e) {d : Nat} {v : Value} (hf : fresh N e d = true) : Fr (a.put (some d) v) N ((d, v) :: e) := by
  have hlt := fresh_lt hf
  have hn := fresh_not hf
  refine ⟨by simp [Act.put, h.size], h.defers, ?_, ?_⟩
  · intro p hp
    rcases List.mem_cons.1 hp with rfl | hp
    · have : d < a.tmps.size := by rw [h.size]; exact hlt
      simp [Act.put, this]
    · have hne : d ≠ p.1 := fun e' => hn (e' ▸ List.mem_map.2 ⟨p, hp, rfl⟩)
      have := h.val p hp
      simp only [Act.put, Array.getD_eq_getD_getElem?] at this ⊢
      rw [Array.getElem?_setIfInBounds_ne hne]
      exact this
  · simp only [List.map_cons, List.nodup_cons]
    exact ⟨hn, h.nd⟩

theorem Fr.put_none {a : Act} {N : Nat} {e : Env} (h : Fr a N e) {v : Value} : Fr (a.put none v) N e := h

/-- A slot that is in the list gets another value. -/
inductive Upd : Env → Nat → Value → Env → Prop
  | here {d : Nat} {u v : Value} {r : Env} : Upd ((d, u) :: r) d v ((d, v) :: r)
  | there {x : Nat × Value} {d : Nat} {v : Value} {r r' : Env} : Upd r d v r' → Upd (x :: r) d v (x :: r')

theorem Upd.keys {e e' : Env} {d : Nat} {v : Value} (h : Upd e d v e') : e'.map (·.1) = e.map (·.1) := by
  induction h with
  | here => rfl
  | there _ ih => simp [ih]
theorem Upd.mem_key {e e' : Env} {d : Nat} {v : Value} (h : Upd e d v e') : d ∈ e.map (·.1) := by
  induction h with
  | here => simp
  | there _ ih => exact List.mem_cons_of_mem _ ih
theorem Upd.spec {e e' : Env} {d : Nat} {v : Value} (h : Upd e d v e') (hn : (e.map (·.1)).Nodup) : ∀ p ∈ e', p = (d, v) ∨ (p ∈ e ∧ p.1 ≠ d) := by
  induction h with
  | @here d u v r =>
    intro p hp
    simp only [List.map_cons, List.nodup_cons] at hn
    rcases List.mem_cons.1 hp with rfl | hp
    · exact .inl rfl
    · exact .inr ⟨List.mem_cons_of_mem _ hp, fun e' => hn.1 (e' ▸ List.mem_map.2 ⟨p, hp, rfl⟩)⟩
  | @there x d v r r' hu ih =>
    intro p hp
    simp only [List.map_cons, List.nodup_cons] at hn
    rcases List.mem_cons.1 hp with rfl | hp
    · exact .inr ⟨List.mem_cons_self, fun e' => hn.1 (e' ▸ hu.mem_key)⟩
    · rcases ih hn.2 p hp with h1 | h1
      · exact .inl h1
      · exact .inr ⟨List.mem_cons_of_mem _ h1.1, h1.2⟩

def inN (N d : Nat) : Bool := Nat.blt d N

theorem Fr.upd {a : Act} {N : Nat} {e e' : Env} (h : Fr a N e) {d : Nat} {v : Value} (hu : Upd e d v e') (hN : inN N d = true) : Fr (a.put (some d) v) N e' := by
  have hlt : d < a.tmps.size := by rw [h.size]; simpa [inN, Nat.blt_eq] using hN
  refine ⟨by simp [Act.put, h.size], h.defers, ?_, by rw [hu.keys]; exact h.nd⟩
  intro p hp
  rcases hu.spec h.nd p hp with rfl | ⟨h1, h2⟩
  · simp [Act.put, hlt]
  · have := h.val p h1
    simp only [Act.put, Array.getD_eq_getD_getElem?] at this ⊢
    rw [Array.getElem?_setIfInBounds_ne (Ne.symm h2)]
    exact this

/-- A part of a list of slots, each value replaced by one that it is equal to. -/
inductive Sb : Env → Env → Prop
  | nil : Sb [] []
  | kp {k : Nat} {v v' : Value} {r r' : Env} : v = v' → Sb r r' → Sb ((k, v) :: r) ((k, v') :: r')
  | dr {x : Nat × Value} {r r' : Env} : Sb r r' → Sb (x :: r) r'

theorem Sb.mem {e e' : Env} (h : Sb e e') : ∀ p ∈ e', p ∈ e := by
  induction h with
  | nil => simp
  | kp hv _ ih =>
    subst hv
    intro p hp
    rcases List.mem_cons.1 hp with rfl | hp
    · exact List.mem_cons_self
    · exact List.mem_cons_of_mem _ (ih p hp)
  | dr _ ih => exact fun p hp => List.mem_cons_of_mem _ (ih p hp)
theorem Sb.nd {e e' : Env} (h : Sb e e') (hn : (e.map (·.1)).Nodup) : (e'.map (·.1)).Nodup := by
  induction h with
  | nil => exact hn
  | @kp k v v' r r' hv hs ih =>
    simp only [List.map_cons, List.nodup_cons] at hn ⊢
    refine ⟨fun hm => hn.1 ?_, ih hn.2⟩
    obtain ⟨p, hp, hpk⟩ := List.mem_map.1 hm
    exact List.mem_map.2 ⟨p, hs.mem p hp, hpk⟩
  | dr _ ih =>
    simp only [List.map_cons, List.nodup_cons] at hn
    exact ih hn.2
theorem Fr.sb {a : Act} {N : Nat} {e e' : Env} (h : Fr a N e) (hs : Sb e e') : Fr a N e' :=
  ⟨h.size, h.defers, fun p hp => h.val p (hs.mem p hp), hs.nd h.nd⟩
theorem Fr.dr {a : Act} {N : Nat} {x : Nat × Value} {e : Env} (h : Fr a N (x :: e)) : Fr a N e :=
  ⟨h.size, h.defers, fun p hp => h.val p (List.mem_cons_of_mem _ hp), (List.nodup_cons.1 (by simpa using h.nd)).2⟩

/-! ### The heap -/

/-- A block whose cells are known, or a row: the block behind a slice value of the call's own. A row that only grows ('p') keeps its first cells for ever. -/
inductive Chunk where
  | obj (g : Nat) (o : Obj)
  | row (p : Bool) (v : Value) (t size n : Nat) (xs : List Value)

def Chunk.blk : Chunk → Option Nat
  | .obj g _ => some g
  | .row _ v _ _ _ _ => v.ownBlock

/-- so many of its first cells stay -/
def Chunk.pre : Chunk → Nat
  | .obj _ _ => 0
  | .row p _ _ size n _ => bif p then n * size else 0

def Chunk.holds (w : World) : Chunk → Prop
  | .obj g o => w.heap[g]? = some o
  | .row _ v t size n xs => w.ownsRow 0 t size v n xs

theorem Chunk.keep {w w' : World} {c : Chunk} (h : c.holds w) (hk : ∀ g, c.blk = some g → w'.heap[g]? = w.heap[g]?) : c.holds w' := by
  cases c with
  | obj g o => exact (hk g rfl).trans h
  | row p v t size n xs =>
    obtain ⟨h1, h2⟩ := h
    refine ⟨h1, ?_⟩
    rcases h2 with h2 | ⟨g, cap, cur, hv, hg, hh, r⟩
    · exact .inl h2
    · exact .inr ⟨g, cap, cur, hv, hg, (hk g (by subst hv; rfl)).trans hh, r⟩

theorem Chunk.lt {w : World} {c : Chunk} (h : c.holds w) {g : Nat} (hg : c.blk = some g) : g < w.heap.size := by
  cases c with
  | obj g' o =>
    simp only [Chunk.blk, Option.some.injEq] at hg
    subst hg
    exact (Array.getElem?_eq_some_iff.1 h).1
  | row p v t size n xs => exact (World.ownsRow.lt h g hg).2

def free (hs : List Chunk) (k : Nat) : Prop := ∀ c ∈ hs, c.blk ≠ some k

theorem free_or (ds : List Chunk) (k : Nat) : free ds k ∨ ∃ c ∈ ds, c.blk = some k := by
  by_cases h : ∃ c ∈ ds, c.blk = some k
  · exact .inr h
  · exact .inl fun c hc hck => h ⟨c, hc, hck⟩

/-- The first m cells of a block read alike. -/
def Same (m : Nat) (w w' : World) (k : Nat) : Prop := ∀ a : Addr, a.block = k → a.off < m → w'.cell? a = w.cell? a
theorem Same.refl (m : Nat) (w : World) (k : Nat) : Same m w w k := fun _ _ _ => rfl
theorem Same.of_block {m : Nat} {w w' : World} {k : Nat} (h : w'.heap[k]? = w.heap[k]?) : Same m w w' k := fun a ha _ => World.cell?_of_block (by rw [ha]; exact h)
theorem Same.zero {w w' : World} {k : Nat} : Same 0 w w' k := fun _ _ h => absurd h (by omega)
theorem Same.trans {m m' : Nat} {w w' w'' : World} {k : Nat} (h : Same m w w' k) (h' : Same m' w' w'' k) (hm : m ≤ m') : Same m w w'' k := fun a ha hm' => (h' a ha (by omega)).trans (h a ha hm')
theorem Same.le {m m' : Nat} {w w' : World} {k : Nat} (h : Same m' w w' k) (hm : m ≤ m') : Same m w w' k := fun a ha hm' => h a ha (by omega)

/-- What a call begins with: its world, the old blocks that it may turn, the old blocks that somebody else may turn later beyond so many cells (no lasting fact may lean on these). -/
structure Cx where
  w0 : World
  mods : List Chunk
  av : Nat → Option Nat

/-- From w to w' nothing has turned but the listed blocks, those of 'av' (each beyond what stays), and what is new. -/
structure Ext (av : Nat → Option Nat) (hs : List Chunk) (w w' : World) : Prop where
  os : w'.os = w.os
  tape : w'.tape = w.tape
  output : w'.output = w.output
  size : w.heap.size ≤ w'.heap.size
  block : ∀ k, k < w.heap.size → av k = none → free hs k → w'.heap[k]? = w.heap[k]?
  pav : ∀ k m, k < w.heap.size → av k = some m → free hs k → Same m w w' k
  prow : ∀ c ∈ hs, ∀ k, c.blk = some k → k < w.heap.size → Same c.pre w w' k

theorem Ext.refl (av : Nat → Option Nat) (hs : List Chunk) (w : World) : Ext av hs w w := ⟨rfl, rfl, rfl, Nat.le_refl _, fun _ _ _ _ => rfl, fun _ _ _ _ _ => Same.refl _ _ _, fun _ _ _ _ _ => Same.refl _ _ _⟩

def Box (av : Nat → Option Nat) (hs : List Chunk) (w : World) (I : World → Prop) : Prop := ∀ w', Ext av hs w w' → I w'

section
variable {av av' : Nat → Option Nat} {hs hs' : List Chunk} {w w' : World} {I J : World → Prop}
theorem Box.get (h : Box av hs w I) : I w := h w (Ext.refl _ _ _)
theorem Box.imp (h : Box av hs w I) (hj : ∀ w, I w → J w) : Box av hs w J := fun w' hx => hj _ (h w' hx)
theorem Box.and (h : Box av hs w I) (hj : Box av hs w J) : Box av hs w (fun w => I w ∧ J w) := fun w' hx => ⟨h w' hx, hj w' hx⟩
theorem Box.pure {p : Prop} (hp : p) : Box av hs w (fun _ => p) := fun _ _ => hp

/-- What a block's first cells are sure of: none (all), or so many. -/
def sure (av : Nat → Option Nat) (hs : List Chunk) (k : Nat) (m : Option Nat) : Prop :=
  (free hs k → av k = m) ∧ ∀ c ∈ hs, c.blk = some k → m = some c.pre

theorem Ext.sub (h : Ext av hs w w') (hb : ∀ k, k < w.heap.size → av' k = none → free hs' k → av k = none ∧ free hs k)
    (hp : ∀ k m, k < w.heap.size → av' k = some m → free hs' k → (av k = none ∧ free hs k) ∨ (∃ m', m ≤ m' ∧ av k = some m' ∧ free hs k) ∨ ∃ c ∈ hs, c.blk = some k ∧ m ≤ c.pre)
    (hr : ∀ c ∈ hs', ∀ k, c.blk = some k → k < w.heap.size → (av k = none ∧ free hs k) ∨ (∃ m', c.pre ≤ m' ∧ av k = some m' ∧ free hs k) ∨ ∃ d ∈ hs, d.blk = some k ∧ c.pre ≤ d.pre) : Ext av' hs' w w' :=
  ⟨h.os, h.tape, h.output, h.size, fun k hk ha hf => h.block k hk (hb k hk ha hf).1 (hb k hk ha hf).2,
    fun k m hk ha hf => by
      rcases hp k m hk ha hf with ⟨h1, h2⟩ | ⟨m', h1, h2, h3⟩ | ⟨c, hc, h1, h2⟩
      · exact Same.of_block (h.block k hk h1 h2)
      · exact (h.pav k m' hk h2 h3).le h1
      · exact (h.prow c hc k h1 hk).le h2,
    fun c hc k hck hk => by
      rcases hr c hc k hck hk with ⟨h1, h2⟩ | ⟨m', h1, h2, h3⟩ | ⟨d, hd, h1, h2⟩
      · exact Same.of_block (h.block k hk h1 h2)
      · exact (h.pav k m' hk h2 h3).le h1
      · exact (h.prow d hd k h1 hk).le h2⟩
end

def Apart (hs : List Chunk) : Prop := hs.Pairwise fun c d => ∀ g, c.blk = some g → d.blk ≠ some g

theorem Apart.uniq {hs : List Chunk} (h : Apart hs) : ∀ c ∈ hs, ∀ d ∈ hs, ∀ g, c.blk = some g → d.blk = some g → c = d := by
  induction hs with
  | nil => intro c hc; cases hc
  | cons a r ih =>
    obtain ⟨h1, h2⟩ := List.pairwise_cons.1 h
    intro c hc d hd g hg hdg
    rcases List.mem_cons.1 hc with rfl | hc <;> rcases List.mem_cons.1 hd with rfl | hd
    · rfl
    · exact absurd hdg (h1 d hd g hg)
    · exact absurd hg (h1 c ‹c ∈ r› g hdg)
    · exact ih h2 c ‹c ∈ r› d ‹d ∈ r› g hg hdg

structure Hp (C : Cx) (w : World) (hs : List Chunk) : Prop where
  os : w.os = C.w0.os
  tape : w.tape = C.w0.tape
  output : w.output = C.w0.output
  size : C.w0.heap.size ≤ w.heap.size
  keep : ∀ k, k < C.w0.heap.size → free C.mods k → w.heap[k]? = C.w0.heap[k]?
  kpre : ∀ c ∈ C.mods, ∀ g, c.blk = some g → g < C.w0.heap.size ∧ Same c.pre C.w0 w g
  mpre : ∀ c ∈ C.mods, ∀ g, c.blk = some g → ∀ d ∈ hs, d.blk = some g → c.pre ≤ d.pre
  hold : ∀ c ∈ hs, c.holds w
  own : ∀ c ∈ hs, ∀ g, c.blk = some g → (∃ m ∈ C.mods, m.blk = some g) ∨ C.w0.heap.size ≤ g
  apart : Apart hs
  av : ∀ k m, C.av k = some m → k < C.w0.heap.size ∧ free C.mods k

structure Hb (C : Cx) (w : World) (hs : List Chunk) (I : World → Prop) : Prop where
  hp : Hp C w hs
  box : Box C.av hs w I

section
variable {C : Cx} {w w' : World} {hs hs' : List Chunk} {I J : World → Prop}

theorem Hb.get (h : Hb C w hs I) : I w := h.box.get

theorem Hp.not_av (h : Hp C w hs) {c : Chunk} (hc : c ∈ hs) {g : Nat} (hg : c.blk = some g) : C.av g = none := by
  cases ha : C.av g with
  | none => rfl
  | some m =>
    have h1 := h.av g m ha
    rcases h.own c hc g hg with ⟨d, hd, hdg⟩ | h2
    · exact absurd hdg (h1.2 d hd)
    · omega

/-- The step: what turned is among the listed blocks, each beyond what stays; the new list's blocks are the old list's, or new; no row that stays is made to stay less. -/
theorem Hb.step (h : Hb C w hs I) (x : Ext (fun _ => none) hs w w') (hold : ∀ c ∈ hs', c.holds w')
    (own : ∀ c ∈ hs', ∀ g, c.blk = some g → (∃ d ∈ hs, d.blk = some g) ∨ w.heap.size ≤ g)
    (ap : Apart hs') (pre : ∀ c ∈ hs, ∀ g, c.blk = some g → ∀ d ∈ hs', d.blk = some g → c.pre ≤ d.pre) : Hb C w' hs' I := by
  refine ⟨⟨x.os.trans h.hp.os, x.tape.trans h.hp.tape, x.output.trans h.hp.output, Nat.le_trans h.hp.size x.size, ?_, ?_, ?_, hold, ?_, ap, h.hp.av⟩, ?_⟩
  · intro k hk hm
    rw [x.block k (Nat.lt_of_lt_of_le hk h.hp.size) rfl ?_]
    · exact h.hp.keep k hk hm
    · intro c hc hck
      rcases h.hp.own c hc k hck with ⟨d, hd, hdk⟩ | h1
      · exact hm d hd hdk
      · omega
  · intro c hc g hg
    have h1 := h.hp.kpre c hc g hg
    have hlt := Nat.lt_of_lt_of_le h1.1 h.hp.size
    refine ⟨h1.1, ?_⟩
    rcases free_or hs g with hf | ⟨d, hd, hdg⟩
    · exact h1.2.trans (Same.of_block (m := c.pre) (x.block g hlt rfl hf)) (Nat.le_refl _)
    · exact h1.2.trans (x.prow d hd g hdg hlt) (h.hp.mpre c hc g hg d hd hdg)
  · intro c hc g hg d hd hdg
    rcases own d hd g hdg with ⟨e, he, heg⟩ | h1
    · exact Nat.le_trans (h.hp.mpre c hc g hg e he heg) (pre e he g heg d hd hdg)
    · have := (h.hp.kpre c hc g hg).1
      have := h.hp.size
      omega
  · intro c hc g hg
    rcases own c hc g hg with ⟨d, hd, hdg⟩ | h1
    · exact h.hp.own d hd g hdg
    · exact .inr (Nat.le_trans h.hp.size h1)
  · intro w2 x2
    have hfree : ∀ k, k < w.heap.size → free hs k → free hs' k := fun k hk hf c hc hck => by
      rcases own c hc k hck with ⟨d, hd, hdg⟩ | h1
      · exact hf d hd hdg
      · omega
    refine h.box w2 ⟨x2.os.trans x.os, x2.tape.trans x.tape, x2.output.trans x.output, Nat.le_trans x.size x2.size, fun k hk ha hf => ?_, fun k m hk ha hf => ?_, fun c hc k hck hk => ?_⟩
    · rw [x2.block k (Nat.lt_of_lt_of_le hk x.size) ha (hfree k hk hf)]
      exact x.block k hk rfl hf
    · exact (Same.of_block (x.block k hk rfl hf)).trans (x2.pav k m (Nat.lt_of_lt_of_le hk x.size) ha (hfree k hk hf)) (Nat.le_refl _)
    · have h1 := x.prow c hc k hck hk
      by_cases hf' : free hs' k
      · exact h1.trans (Same.of_block (m := c.pre) (x2.block k (Nat.lt_of_lt_of_le hk x.size) (h.hp.not_av hc hck) hf')) (Nat.le_refl _)
      · have : ∃ d ∈ hs', d.blk = some k := Classical.byContradiction fun hno => hf' fun d hd hdk => hno ⟨d, hd, hdk⟩
        obtain ⟨d, hd, hdk⟩ := this
        exact h1.trans (x2.prow d hd k hdk (Nat.lt_of_lt_of_le hk x.size)) (pre c hc k hck d hd hdk)

/-- The heap is the same: a draw. -/
theorem Hb.same (h : Hb C w hs I) (h1 : w'.os = w.os) (h2 : w'.tape = w.tape) (h3 : w'.output = w.output) (h4 : w'.heap = w.heap) : Hb C w' hs I :=
  h.step ⟨h1, h2, h3, by rw [h4]; exact Nat.le_refl _, fun _ _ _ _ => by rw [h4], fun k _ _ _ _ => Same.of_block (by rw [h4]), fun _ _ k _ _ => Same.of_block (by rw [h4])⟩
    (fun c hc => Chunk.keep (h.hp.hold c hc) fun g _ => by rw [h4])
    (fun c hc g hg => .inl ⟨c, hc, hg⟩) h.hp.apart (fun c hc g hg d hd hdg => by rw [h.hp.apart.uniq c hc d hd g hg hdg]; exact Nat.le_refl _)

theorem Hb.drew (h : Hb C w hs I) : Hb C w.drew hs I := h.same rfl rfl rfl rfl

/-- More, and nothing of the old has turned. -/
theorem Hb.grow (h : Hb C w hs I) (x : Ext (fun _ => none) [] w w') : Hb C w' hs I := by
  have hblk : ∀ k, k < w.heap.size → w'.heap[k]? = w.heap[k]? := fun k hk => x.block k hk rfl (fun _ hc => absurd hc (by simp))
  exact h.step ⟨x.os, x.tape, x.output, x.size, fun k hk _ _ => hblk k hk, fun k _ hk _ _ => Same.of_block (hblk k hk), fun _ _ k _ hk => Same.of_block (hblk k hk)⟩
    (fun c hc => Chunk.keep (h.hp.hold c hc) fun g hg => hblk g (Chunk.lt (h.hp.hold c hc) hg))
    (fun c hc g hg => .inl ⟨c, hc, hg⟩) h.hp.apart (fun c hc g hg d hd hdg => by rw [h.hp.apart.uniq c hc d hd g hg hdg]; exact Nat.le_refl _)

theorem Hb.alloc (h : Hb C w hs I) (o : Obj) : Hb C (w.alloc o) (.obj w.heap.size o :: hs) I := by
  have hkeep : ∀ k, k < w.heap.size → (w.alloc o).heap[k]? = w.heap[k]? := fun k hk => Below.heap_alloc w o k hk
  refine h.step ⟨rfl, rfl, rfl, by simp, fun k hk _ _ => hkeep k hk, fun k _ hk _ _ => Same.of_block (hkeep k hk), fun _ _ k _ hk => Same.of_block (hkeep k hk)⟩ ?_ ?_ ?_ ?_
  · intro c hc
    rcases List.mem_cons.1 hc with rfl | hc
    · exact heap_alloc_new w o
    · exact Chunk.keep (h.hp.hold c hc) fun g hg => hkeep g (Chunk.lt (h.hp.hold c hc) hg)
  · intro c hc g hg
    rcases List.mem_cons.1 hc with rfl | hc
    · simp only [Chunk.blk, Option.some.injEq] at hg
      exact .inr (by omega)
    · exact .inl ⟨c, hc, hg⟩
  · refine List.pairwise_cons.2 ⟨fun d hd g hg hdg => ?_, h.hp.apart⟩
    simp only [Chunk.blk, Option.some.injEq] at hg
    have := Chunk.lt (h.hp.hold d hd) hdg
    omega
  · intro c hc g hg d hd hdg
    rcases List.mem_cons.1 hd with rfl | hd
    · simp only [Chunk.blk, Option.some.injEq] at hdg
      have := Chunk.lt (h.hp.hold c hc) hg
      omega
    · rw [h.hp.apart.uniq c hc d hd g hg hdg]; exact Nat.le_refl _

theorem Apart.perm {l l' : List Chunk} (h : Apart l) (p : l.Perm l') : Apart l' :=
  List.Pairwise.perm (show List.Pairwise _ l from h) p fun hxy g hx hy => hxy g hy hx
theorem Ext.perm {av : Nat → Option Nat} (x : Ext av hs w w') (p : hs.Perm hs') : Ext av hs' w w' :=
  ⟨x.os, x.tape, x.output, x.size, fun k hk ha hf => x.block k hk ha fun c hc => hf c (p.mem_iff.1 hc), fun k m hk ha hf => x.pav k m hk ha fun c hc => hf c (p.mem_iff.1 hc), fun c hc => x.prow c (p.mem_iff.2 hc)⟩
theorem Hb.perm (h : Hb C w hs I) (p : hs.Perm hs') : Hb C w hs' I :=
  ⟨⟨h.hp.os, h.hp.tape, h.hp.output, h.hp.size, h.hp.keep, h.hp.kpre, fun c hc g hg d hd => h.hp.mpre c hc g hg d (p.mem_iff.2 hd), fun c hc => h.hp.hold c (p.mem_iff.2 hc), fun c hc => h.hp.own c (p.mem_iff.2 hc), h.hp.apart.perm p, h.hp.av⟩,
    fun w' x => h.box w' (x.perm p.symm)⟩

/-- The first listed block turned: it now reads as another chunk of the same block, or of a new one. -/
theorem Hb.turn {c c' : Chunk} {r : List Chunk} (h : Hb C w (c :: r) I) (x : Ext (fun _ => none) [c] w w') (hh : c'.holds w')
    (hb : ∀ g, c'.blk = some g → (c.blk = some g ∧ c.pre ≤ c'.pre) ∨ w.heap.size ≤ g) : Hb C w' (c' :: r) I := by
  obtain ⟨ap1, ap2⟩ := List.pairwise_cons.1 h.hp.apart
  have hc : c ∈ c :: r := List.mem_cons_self
  have hone : ∀ k, free (c :: r) k → free [c] k := fun k hf d hd => by
    have : d = c := by simpa using hd
    subst this; exact hf _ hc
  have hr : ∀ d ∈ r, ∀ g, d.blk = some g → free [c] g := fun d hd g hg e he heg => by
    have : e = c := by simpa using he
    subst this; exact ap1 d hd g heg hg
  have hkeep : ∀ d ∈ r, ∀ g, d.blk = some g → w'.heap[g]? = w.heap[g]? := fun d hd g hg => x.block g (Chunk.lt (h.hp.hold d (List.mem_cons_of_mem _ hd)) hg) rfl (hr d hd g hg)
  refine h.step ⟨x.os, x.tape, x.output, x.size, fun k hk _ hf => x.block k hk rfl (hone k hf), fun k m hk _ hf => Same.of_block (x.block k hk rfl (hone k hf)), fun d hd k hdk hk => ?_⟩ ?_ ?_ ?_ ?_
  · rcases List.mem_cons.1 hd with rfl | hd
    · exact x.prow _ (by simp) k hdk hk
    · exact Same.of_block (hkeep d hd k hdk)
  · intro d hd
    rcases List.mem_cons.1 hd with rfl | hd
    · exact hh
    · exact Chunk.keep (h.hp.hold d (List.mem_cons_of_mem _ hd)) fun g hg => hkeep d hd g hg
  · intro d hd g hg
    rcases List.mem_cons.1 hd with rfl | hd
    · exact (hb g hg).imp (fun h3 => ⟨c, hc, h3.1⟩) id
    · exact .inl ⟨d, List.mem_cons_of_mem _ hd, hg⟩
  · refine List.pairwise_cons.2 ⟨fun d hd g hg hdg => ?_, ap2⟩
    rcases hb g hg with h3 | h3
    · exact ap1 d hd g h3.1 hdg
    · have := Chunk.lt (h.hp.hold d (List.mem_cons_of_mem _ hd)) hdg
      omega
  · intro d hd g hg e he heg
    have hlt := Chunk.lt (h.hp.hold d hd) hg
    rcases List.mem_cons.1 hd with rfl | hd <;> rcases List.mem_cons.1 he with rfl | he
    · rcases hb g heg with h3 | h3
      · exact h3.2
      · omega
    · exact absurd heg (ap1 e he g hg)
    · rcases hb g heg with h3 | h3
      · exact absurd hg (ap1 d hd g h3.1)
      · omega
    · rw [Apart.uniq ap2 d hd e he g hg heg]; exact Nat.le_refl _

def HAll (w : World) (l : List Chunk) : Prop := ∀ c ∈ l, c.holds w

/-- Chunks are let go: what they held is from now on a plain fact. -/
theorem Hb.weak {ks ds : List Chunk} (h : Hb C w (ds ++ ks) I) (hI : ∀ w, I w → HAll w ds → J w) : Hb C w ks J := by
  have ap := List.pairwise_append.1 h.hp.apart
  have hm : ∀ c ∈ ks, c ∈ ds ++ ks := fun c hc => List.mem_append_right _ hc
  refine ⟨⟨h.hp.os, h.hp.tape, h.hp.output, h.hp.size, h.hp.keep, h.hp.kpre, fun c hc g hg d hd => h.hp.mpre c hc g hg d (hm d hd), fun c hc => h.hp.hold c (hm c hc), fun c hc => h.hp.own c (hm c hc), ap.2.1, h.hp.av⟩, ?_⟩
  intro w' x
  have hds : ∀ c ∈ ds, ∀ g, c.blk = some g → w'.heap[g]? = w.heap[g]? := fun c hc g hg =>
    x.block g (Chunk.lt (h.hp.hold c (List.mem_append_left _ hc)) hg) (h.hp.not_av (List.mem_append_left _ hc) hg) fun d hd hdg => ap.2.2 c hc d hd g hg hdg
  have hfree : ∀ k, free (ds ++ ks) k → free ks k := fun k hf c hc => hf c (hm c hc)
  refine hI w' (h.box w' ⟨x.os, x.tape, x.output, x.size, fun k hk ha hf => x.block k hk ha (hfree k hf), fun k m hk ha hf => x.pav k m hk ha (hfree k hf), fun c hc k hck hk => ?_⟩) (fun c hc => ?_)
  · rcases List.mem_append.1 hc with hc | hc
    · exact Same.of_block (hds c hc k hck)
    · exact x.prow c hc k hck hk
  · exact Chunk.keep (h.hp.hold c (List.mem_append_left _ hc)) fun g hg => hds c hc g hg

theorem Hb.imp (h : Hb C w hs I) (hI : ∀ w, I w → J w) : Hb C w hs J := ⟨h.hp, h.box.imp hI⟩
theorem Hb.and (h : Hb C w hs I) (hJ : Box C.av hs w J) : Hb C w hs (fun w => I w ∧ J w) := ⟨h.hp, h.box.and hJ⟩

/-- What a row that only grows holds is known for good. -/
theorem Hb.rowfact {v : Value} {t size n : Nat} {xs : List Value} {g : Nat} (h : Hb C w hs I) (hc : Chunk.row true v t size n xs ∈ hs) (hv : v.ownBlock = some g) :
    Box C.av hs w (fun w' => ∀ j u, xs[j]? = some u → w'.cell? ((⟨g, 0, none⟩ : Addr).add j) = some u) := by
  intro w' x j u hu
  have h1 : w.ownsRow 0 t size v n xs := h.hp.hold _ hc
  have h2 := h1.cells hv j u hu
  rw [← h2]
  have hlt := Chunk.lt (h.hp.hold _ hc) (show (Chunk.row true v t size n xs).blk = some g from hv)
  refine x.prow _ hc g hv hlt _ (by unfold Addr.add; split <;> rfl) ?_
  have hj : j < n * size := by
    have := (List.getElem?_eq_some_iff.1 hu).1
    rwa [h1.1] at this
  have : ((⟨g, 0, none⟩ : Addr).add j).off = j := by unfold Addr.add; split <;> simp_all
  rw [this]
  exact hj

/-- The blocks of a list of chunks. -/
def inBlks (l : List Chunk) (k : Nat) : Prop := ∃ c ∈ l, c.blk = some k
def blks (l : List Chunk) : List Nat := l.filterMap Chunk.blk
theorem mem_blks {l : List Chunk} {k : Nat} : k ∈ blks l ↔ inBlks l k := by simp [blks, inBlks, List.mem_filterMap]
def avOf (av : Nat → Option Nat) (ds : List Chunk) (k : Nat) : Option Nat := match ds.find? (fun c => decide (c.blk = some k)) with
  | some c => some c.pre
  | none => av k
theorem avOf_free {av : Nat → Option Nat} {ds : List Chunk} {k : Nat} (h : free ds k) : avOf av ds k = av k := by
  unfold avOf
  have : ds.find? (fun c => decide (c.blk = some k)) = none := List.find?_eq_none.2 fun c hc => by simpa using h c hc
  rw [this]
theorem avOf_in {av : Nat → Option Nat} {ds : List Chunk} {k : Nat} (ap : Apart ds) {c : Chunk} (hc : c ∈ ds) (hk : c.blk = some k) : avOf av ds k = some c.pre := by
  unfold avOf
  cases hf : ds.find? (fun c => decide (c.blk = some k)) with
  | none => exact absurd hk (by simpa using List.find?_eq_none.1 hf c hc)
  | some d =>
    have h1 : d.blk = some k := by simpa using List.find?_some hf
    rw [ap.uniq c hc d (List.mem_of_find?_eq_some hf) k hk h1]

/-- The state that a callee begins with: some chunks are handed to it, the others it may not turn. -/
def Cx.sub (C : Cx) (w : World) (ks ds : List Chunk) : Cx := ⟨w, ks, avOf C.av ds⟩

theorem Hb.pass {ks ds : List Chunk} (h : Hb C w (ks ++ ds) I) : Hb (C.sub w ks ds) w ks I := by
  have ap := List.pairwise_append.1 h.hp.apart
  have hk : ∀ c ∈ ks, c ∈ ks ++ ds := fun c hc => List.mem_append_left _ hc
  have hd : ∀ c ∈ ds, c ∈ ks ++ ds := fun c hc => List.mem_append_right _ hc
  refine ⟨⟨rfl, rfl, rfl, Nat.le_refl _, fun _ _ _ => rfl, fun c hc g hg => ⟨Chunk.lt (h.hp.hold c (hk c hc)) hg, Same.refl _ _ _⟩, fun c hc g hg d hd' hdg => (by rw [Apart.uniq ap.1 c hc d hd' g hg hdg]; exact Nat.le_refl _), fun c hc => h.hp.hold c (hk c hc), fun c hc g hg => .inl ⟨c, hc, hg⟩, ap.1, ?_⟩, ?_⟩
  · intro k m hkm
    rcases free_or ds k with hf | ⟨c, hc, hck⟩
    · have hkm' : C.av k = some m := by rw [← avOf_free (av := C.av) hf]; exact hkm
      have h1 := h.hp.av k m hkm'
      refine ⟨Nat.lt_of_lt_of_le h1.1 h.hp.size, fun c hc hck => ?_⟩
      have h2 := h.hp.not_av (hk c hc) hck
      rw [hkm'] at h2; cases h2
    · exact ⟨Chunk.lt (h.hp.hold c (hd c hc)) hck, fun d hd' hdk => ap.2.2 d hd' c hc k hdk hck⟩
  · intro w' x
    refine h.box w' ⟨x.os, x.tape, x.output, x.size, fun k hk' ha hf => ?_, fun k m hk' ha hf => ?_, fun c hc k hck hk' => ?_⟩
    · exact x.block k hk' (by rw [show (C.sub w ks ds).av = avOf C.av ds from rfl, avOf_free (av := C.av) fun c hc => hf c (hd c hc)]; exact ha) fun c hc => hf c (hk c hc)
    · exact x.pav k m hk' (by rw [show (C.sub w ks ds).av = avOf C.av ds from rfl, avOf_free (av := C.av) fun c hc => hf c (hd c hc)]; exact ha) fun c hc => hf c (hk c hc)
    · rcases List.mem_append.1 hc with hc | hc
      · exact x.prow c hc k hck hk'
      · exact x.pav k c.pre hk' (avOf_in ap.2.1 hc hck) fun d hd' hdk => ap.2.2 d hd' c hc k hdk hck

/-- Behind the call. -/
theorem Hb.back {ks ds rs : List Chunk} {F : World → Prop} (h : Hb C w (ks ++ ds) I) (k : Hb (C.sub w ks ds) w' rs F) : Hb C w' (rs ++ ds) (fun w => I w ∧ F w) := by
  have ap := List.pairwise_append.1 h.hp.apart
  have hkm : ∀ c ∈ ks, c ∈ ks ++ ds := fun c hc => List.mem_append_left _ hc
  have hdm : ∀ c ∈ ds, c ∈ ks ++ ds := fun c hc => List.mem_append_right _ hc
  have hown : ∀ c ∈ rs, ∀ g, c.blk = some g → (∃ d ∈ ks, d.blk = some g) ∨ w.heap.size ≤ g := fun c hc g hg => k.hp.own c hc g hg
  have hkeep : ∀ g, g < w.heap.size → (∀ d ∈ ks, d.blk ≠ some g) → w'.heap[g]? = w.heap[g]? := fun g hg hd => k.hp.keep g hg fun d hd' hdg => hd d hd' hdg
  have hds : ∀ c ∈ ds, ∀ g, c.blk = some g → w'.heap[g]? = w.heap[g]? := fun c hc g hg => hkeep g (Chunk.lt (h.hp.hold c (hdm c hc)) hg) fun d hd hdg => ap.2.2 d hd c hc g hdg hg
  have h1 : Hb C w' (rs ++ ds) I := by
    refine h.step ⟨k.hp.os, k.hp.tape, k.hp.output, k.hp.size, fun g hg _ hf => hkeep g hg fun d hd => hf d (hkm d hd), fun g m hg _ hf => Same.of_block (hkeep g hg fun d hd => hf d (hkm d hd)), fun c hc g hcg hg => ?_⟩ ?_ ?_ ?_ ?_
    · rcases List.mem_append.1 hc with hc | hc
      · exact (k.hp.kpre c hc g hcg).2
      · exact Same.of_block (hds c hc g hcg)
    · intro c hc
      rcases List.mem_append.1 hc with hc | hc
      · exact k.hp.hold c hc
      · exact Chunk.keep (h.hp.hold c (hdm c hc)) fun g hg => hds c hc g hg
    · intro c hc g hg
      rcases List.mem_append.1 hc with hc | hc
      · exact (hown c hc g hg).imp (fun ⟨d, hd, hdg⟩ => ⟨d, hkm d hd, hdg⟩) id
      · exact .inl ⟨c, hdm c hc, hg⟩
    · refine List.pairwise_append.2 ⟨k.hp.apart, ap.2.1, fun c hc d hd g hg hdg => ?_⟩
      have h2 := Chunk.lt (h.hp.hold d (hdm d hd)) hdg
      rcases hown c hc g hg with ⟨d', hd', hdg'⟩ | h3
      · exact ap.2.2 d' hd' d hd g hdg' hdg
      · omega
    · intro c hc g hg d hd hdg
      have hlt := Chunk.lt (h.hp.hold c hc) hg
      rcases List.mem_append.1 hc with hc | hc <;> rcases List.mem_append.1 hd with hd | hd
      · exact k.hp.mpre c hc g hg d hd hdg
      · exact absurd hdg (ap.2.2 c hc d hd g hg)
      · rcases hown d hd g hdg with ⟨d', hd', hdg'⟩ | h3
        · exact absurd hg (ap.2.2 d' hd' c hc g hdg')
        · omega
      · rw [Apart.uniq ap.2.1 c hc d hd g hg hdg]; exact Nat.le_refl _
  refine ⟨h1.hp, h1.box.and fun w2 x2 => k.box w2 ⟨x2.os, x2.tape, x2.output, x2.size, fun g hg ha hf => ?_, fun g m hg ha hf => ?_, fun c hc => x2.prow c (List.mem_append_left _ hc)⟩⟩
  · have hfd : free ds g := fun c hc hcg => by
      have h3 := avOf_in (av := C.av) ap.2.1 hc hcg
      rw [show (C.sub w ks ds).av g = avOf C.av ds g from rfl] at ha
      rw [h3] at ha; cases ha
    refine x2.block g hg (by rw [← avOf_free (av := C.av) (ds := ds) hfd]; exact ha) fun c hc => ?_
    rcases List.mem_append.1 hc with hc | hc
    · exact hf c hc
    · exact hfd c hc
  · rcases free_or ds g with hfd | ⟨c, hc, hcg⟩
    · refine x2.pav g m hg (by rw [← avOf_free (av := C.av) (ds := ds) hfd]; exact ha) fun c hc => ?_
      rcases List.mem_append.1 hc with hc | hc
      · exact hf c hc
      · exact hfd c hc
    · have h3 := avOf_in (av := C.av) ap.2.1 hc hcg
      have h4 : m = c.pre := by
        have h5 : avOf C.av ds g = some m := ha
        rw [h3] at h5; injection h5 with h5; exact h5.symm
      rw [h4]
      exact x2.prow c (List.mem_append_right _ hc) g hcg hg
end

end Go.Eng
