/- Chapter 4, plainly: names, blanks, one character of a line. -/
import Derived.Test.YtgajdfnceadkfaaDoorQAD
import Derived.Lib.SpaceUEq
import Derived.Lib.MapLaws
import Derived.Lib.ReplaceLaws
import Derived.Lib.RuneCountTail
import Derived.Test.YtgajdfnceadkfaaDoorProg
import Derived.KernelRfl
import Derived.Test.YtgajdfnceadkfaaDoorQAC
import Derived.Carry
import Derived.ChangeSame
import Derived.ChangeMaps5
import Derived.SizedLaws
import Derived.ChangeSlices
import Derived.SliceStrings
import Derived.ProofKit
import Derived.OpenShut
import Derived.Deep.DeepHandedRow
import Derived.Lib.LaidTab
namespace Go.Fn
open Go Go.Lf
def letB (b : UInt8) : Bool := decide (97 ≤ b.toNat) && decide (b.toNat ≤ 122)
def blkB (b : UInt8) : Bool := b == 9 || b == 32
/-- how many letters a text begins with -/
def lets (l : Bs) : Nat := (l.takeWhile letB).length
theorem lets_nil : lets [] = 0 := rfl
theorem lets_cons (b : UInt8) (r : Bs) : lets (b :: r) = if letB b then lets r + 1 else 0 := by
  unfold lets
  rw [List.takeWhile_cons]
  split <;> simp
theorem lets_le (l : Bs) : lets l ≤ l.length := (List.takeWhile_prefix letB).length_le
theorem name_loop (s : Bs) (hs : s.length ≤ 1000000000) (B : Int → Option (Int ⊕ Int)) (hB : ∀ z1, B z1 = ((bif (decide (z1 < (((List.length s) : Nat) : Int))) then ((Go.Lf.idx s z1)).bind fun r2 =>
       bif (decide ((97 : Int) ≤ (((UInt8.toNat r2) : Nat) : Int))) then ((Go.Lf.idx s z1)).bind fun r3 =>
       some (decide ((((UInt8.toNat r3) : Nat) : Int) ≤ (122 : Int)))
       else some false
       else some false).bind fun r4 =>
     bif r4 then some (.inl (Go.IntKind.wrap .i64 (z1 + (1 : Int))))
     else some (.inr z1))) : ∀ (m k : Nat), k + m = s.length → loopC B (k : Int) = some ((k + lets (s.drop k) : Nat) : Int)
  | 0, k, hk => by
    have h0 : ¬ (k : Int) < ((s.length : Nat) : Int) := by omega
    rw [loopC_step, hB]
    simp only [h0, decide_false, cond_false, Option.bind_some]
    rw [List.drop_eq_nil_of_le (by omega)]
    rfl
  | m + 1, k, hk => by
    have h0 : (k : Int) < ((s.length : Nat) : Int) := by omega
    have hlt : k < s.length := by omega
    have hg : idx s (k : Int) = some s[k] := by rw [idx_nat, List.getElem?_eq_getElem hlt]
    have ih := name_loop s hs B hB m (k + 1) (by omega)
    have hw : IntKind.wrap .i64 ((k : Int) + 1) = ((k + 1 : Nat) : Int) := wrapS (by omega)
    rw [loopC_step, hB]
    simp only [h0, decide_true, cond_true, hg, Option.bind_some, hw]
    rw [List.drop_eq_getElem_cons hlt, lets_cons]
    by_cases h1 : 97 ≤ s[k].toNat
    · have h1' : (97 : Int) ≤ ((s[k].toNat : Nat) : Int) := by omega
      by_cases h2 : s[k].toNat ≤ 122
      · have h2' : ((s[k].toNat : Nat) : Int) ≤ 122 := by omega
        have hl : letB s[k] = true := by unfold letB; simp [h1, h2]
        simp only [h1', h2', decide_true, cond_true, Option.bind_some, hl, if_true, ih]
        congr 2; omega
      · have h2' : ¬ ((s[k].toNat : Nat) : Int) ≤ 122 := by omega
        have hl : letB s[k] = false := by unfold letB; simp [h2]
        simp only [h1', h2', decide_true, decide_false, cond_true, cond_false, Option.bind_some, hl]
        simp
    · have h1' : ¬ (97 : Int) ≤ ((s[k].toNat : Nat) : Int) := by omega
      have hl : letB s[k] = false := by unfold letB; simp [h1]
      simp only [h1', decide_false, cond_false, Option.bind_some, hl]
      simp
theorem name_eq (s : Bs) (hs : s.length ≤ 1000000000) : mark_name s = some ((lets s : Nat) : Int) := by
  unfold mark_name
  have e := name_loop s hs _ (fun _ => rfl) s.length 0 (by omega)
  have e : loopC _ (0 : Int) = _ := e
  rw [e]
  simp
theorem blanked_eq (b : UInt8) : mark_blanked ((b.toNat : Nat) : Int) = some (blkB b) := by
  have c1 : decide (((b.toNat : Nat) : Int) = 9) = (b == 9) := nat8 b 9
  have c2 : decide (((b.toNat : Nat) : Int) = 32) = (b == 32) := nat8 b 32
  unfold mark_blanked
  rw [c1, c2]
  unfold blkB
  cases b == 9 <;> cases b == 32 <;> rfl
def spcB (b : UInt8) : Bool := b == 92 || b == 123 || b == 125 || b == 124 || b == 46 || b == 35
/-- may a name of k letters end there? -/
def endB (k : Nat) (r : Bs) : Bool := k == 0 || decide (12 < k) || (match r with | [] => false | d :: _ => !(blkB d) && (d != 124) && (d != 125))
/-- the first character -/
def chrB (r : Bs) : Bs := r.take (Lib.decodeL r).2
/-- a step: what stands first in (b :: r), at a column: how many bytes behind b are done too, and the state -/
def stepS (x : Lx) (c : Nat) (b : UInt8) (r : Bs) : Except Wr (Nat × Lx) :=
  if blkB b then .ok (0, waitS x c)
  else if b = 92 then (match r with
    | [] => .error ⟨42, x.line, c, []⟩
    | d :: _ => if spcB d then .ok (1, putS (settleS x) [d] x.line c) else .error ⟨42, x.line, c, chrB r⟩)
  else if b = 123 then
    (if endB (lets r) (r.drop (lets r)) then .error ⟨43, x.line, c, []⟩
     else if 16 ≤ x.opn.length then .error ⟨46, x.line, c, r.take (lets r)⟩
     else .ok (lets r, { tokS x 3 (r.take (lets r)) c with opn := x.opn ++ [(r.take (lets r), (x.line : Int), (c : Int), ())], fresh := true }))
  else if b = 125 then
    (if x.opn = [] then .error ⟨44, x.line, c, []⟩ else .ok (0, { tokS x 5 [] c with opn := x.opn.dropLast }))
  else if b = 124 ∧ x.opn ≠ [] then .ok (0, tokS x 4 [] c)
  else .ok (0, putS (settleS x) [b] x.line c)
/-- a text's bytes, from a column on; the first k are done -/
def textS : Nat → Lx → Nat → Bs → Except Wr Lx
  | _, x, c, [] => .ok (waitS x c)
  | k + 1, x, c, _ :: r => textS k x (c + 1) r
  | 0, x, c, b :: r => match stepS x c b r with
    | .error w => .error w
    | .ok p => textS p.1 p.2 (c + 1) r
theorem textS_skip : ∀ (k : Nat) (x : Lx) (c : Nat) (l : Bs), k ≤ l.length → textS k x c l = textS 0 x (c + k) (l.drop k)
  | 0, _, _, _, _ => rfl
  | k + 1, x, c, [], h => by simp at h
  | k + 1, x, c, b :: r, h => by
    rw [textS, textS_skip k x (c + 1) r (by simpa using h), List.drop_succ_cons]
    congr 1; omega
/-- bytes that no step knows by name -/
def dullB (b : UInt8) : Bool := !(blkB b) && b != 92 && b != 123 && b != 125 && b != 124
theorem step_dull {x : Lx} {c : Nat} {b : UInt8} {r : Bs} (h : dullB b = true) : stepS x c b r = .ok (0, putS (settleS x) [b] x.line c) := by
  unfold dullB at h
  simp only [Bool.and_eq_true, Bool.not_eq_true', bne_iff_ne, ne_eq] at h
  obtain ⟨⟨⟨⟨h1, h2⟩, h3⟩, h4⟩, h5⟩ := h
  unfold stepS
  simp [h1, h2, h3, h4, h5]
theorem settle_put (x : Lx) (s : Bs) (l c : Int) : settleS (putS (settleS x) s l c) = putS (settleS x) s l c := by
  unfold settleS
  cases hx : x.bl <;> simp [putS]
theorem put_put (x : Lx) (s t : Bs) (l c l' c' : Int) : putS (putS x s l c) t l' c' = putS x (s ++ t) l c := by
  unfold putS
  cases x.run <;> simp
theorem put_line (x : Lx) (s : Bs) (l c : Int) : (putS x s l c).line = x.line := rfl
/-- a run of dull bytes is put at once -/
theorem text_dull : ∀ (u : Bs) (x : Lx) (s : Bs) (c c' : Nat) (r : Bs), (∀ b ∈ u, dullB b = true) →
    textS 0 (putS (settleS x) s x.line c) c' (u ++ r) = textS 0 (putS (settleS x) (s ++ u) x.line c) (c' + u.length) r
  | [], x, s, c, c', r, _ => by simp
  | b :: u, x, s, c, c', r, h => by
    rw [List.cons_append, textS, step_dull (h b (by simp))]
    simp only [settle_put, put_put]
    rw [text_dull u x (s ++ [b]) c (c' + 1) r (fun d hd => h d (by simp [hd]))]
    simp only [List.append_assoc, List.singleton_append, List.length_cons]
    congr 1; omega
theorem decodeGo_L (l : Bs) (h : l ≠ []) : Lib.decodeGo ⟨l.toArray⟩ = Lib.decodeL l := by
  unfold Lib.decodeGo Lib.decodeL
  have : (⟨l.toArray⟩ : ByteArray).size ≠ 0 := by
    show l.toArray.size ≠ 0
    simpa using h
  rw [if_neg this]
theorem getD_drop1 (b : UInt8) (r : Bs) (i : Nat) : (b :: r).getD (i + 1) 0 = r.getD i 0 := by simp
theorem dull_cont (d : UInt8) (h : d.toNat / 64 = 2) : dullB d = true := by
  have hne : ∀ k : UInt8, k.toNat < 128 → d ≠ k := fun k hk e => by subst e; omega
  unfold dullB blkB
  simp [hne 9 (by decide), hne 32 (by decide), hne 92 (by decide), hne 123 (by decide), hne 125 (by decide), hne 124 (by decide)]
/-- a character's further bytes are dull -/
theorem conts_dull (b : UInt8) (r : Bs) : ∀ d ∈ r.take ((Lib.decodeL (b :: r)).2 - 1), dullB d = true := by
  intro d hd
  have hc := Lib.decodeN_conts (b :: r).length ((b :: r).getD 0 0).toNat ((b :: r).getD 1 0).toNat ((b :: r).getD 2 0).toNat ((b :: r).getD 3 0).toNat
  rw [← Lib.decodeL_N] at hc
  obtain ⟨c2, c3, c4, c5⟩ := hc
  obtain ⟨i, hi, he⟩ := List.mem_iff_getElem.1 hd
  rw [List.length_take] at hi
  rw [List.getElem_take] at he
  have hg : r.getD i 0 = d := by rw [List.getD_eq_getElem?_getD, List.getElem?_eq_getElem (by omega)]; exact he
  have h4 : i < 3 := by omega
  rw [getD_drop1] at c2 c3 c4
  refine dull_cont d ?_
  match i, h4 with
  | 0, _ => rw [← hg]; exact (c2 (by omega)).1
  | 1, _ => rw [← hg]; exact (c3 (by omega)).1
  | 2, _ => rw [← hg]; exact (c4 (by omega)).1
theorem sub_end {α : Type} {l : List α} {a : Nat} (h : a ≤ l.length) : sub l (a : Int) ((l.length : Nat) : Int) = some (l.drop a) := by
  rw [sub_nat h (Nat.le_refl _), List.take_of_length_le (by simp)]
theorem sub_len {α : Type} {l : List α} {a k : Nat} (h : a + k ≤ l.length) : sub l (a : Int) ((a + k : Nat) : Int) = some ((l.drop a).take k) := by
  rw [sub_nat (by omega) h]; congr 2; omega
theorem special6_ix (b : UInt8) : decide (0 ≤ Lib.indexByte [92, 123, 125, 124, 46, 35] ((b.toNat : Int).toNat.toUInt8)) = spcB b := by
  have : (b.toNat : Int).toNat.toUInt8 = b := by simp
  rw [this]
  by_cases h1 : b = 92
  · subst h1; rfl
  by_cases h2 : b = 123
  · subst h2; rfl
  by_cases h3 : b = 125
  · subst h3; rfl
  by_cases h4 : b = 124
  · subst h4; rfl
  by_cases h5 : b = 46
  · subst h5; rfl
  by_cases h6 : b = 35
  · subst h6; rfl
  simp [Lib.indexByte, spcB, h1, h2, h3, h4, h5, h6, Ne.symm h1, Ne.symm h2, Ne.symm h3, Ne.symm h4, Ne.symm h5, Ne.symm h6]
/-- what the function of one character says -/
def ChrR (res : Option (Int × ErrT × LxT)) (x : Lx) (l : Bs) (i n : Nat) : Prop :=
  (∃ w k t, res = some (k, Wr.e w, t) ∧ textS 0 x (i + 1) (l.drop i) = .error w) ∨
  (∃ (k : Nat) (y : Lx), res = some ((k : Int), none, y.t) ∧ 1 ≤ k ∧ i + k ≤ l.length ∧ textS 0 x (i + 1) (l.drop i) = textS 0 y (i + k + 1) (l.drop (i + k)) ∧ y.Ok (n + 8))
theorem decode_go (r : Bs) : utf8_DecodeRuneInString r = some (((Lib.decodeGo ⟨r.toArray⟩).1 : Int), ((Lib.decodeGo ⟨r.toArray⟩).2 : Int)) := if_pos trivial
theorem escape_eq {x : Lx} {n : Nat} (h : x.Ok n) (l : Bs) (i : Nat) (hi : i < l.length) (hb : l[i] = 92) (hl : l.length ≤ 100000) (hn : n ≤ 100000000) : ChrR (mark_lexer__escape x.t l (i : Int)) x l i n := by
  have hd : l.drop i = 92 :: l.drop (i + 1) := by rw [List.drop_eq_getElem_cons hi, hb]
  have hw : IntKind.wrap .i64 ((i : Int) + 1) = ((i + 1 : Nat) : Int) := wrapS (by omega)
  have hw2 : IntKind.wrap .i64 ((i : Int) + 2) = ((i + 1 + 1 : Nat) : Int) := by rw [wrap64 (by omega) (by omega)]; omega
  have hln : x.t.2.2.2.2.2.2.1 = ((x.line : Nat) : Int) := rfl
  have hT : textS 0 x (i + 1) (l.drop i) = match stepS x (i + 1) 92 (l.drop (i + 1)) with | .error w => .error w | .ok p => textS p.1 p.2 (i + 1 + 1) (l.drop (i + 1)) := by rw [hd]; rfl
  unfold mark_lexer__escape
  rw [hw, hw2]
  by_cases h1 : i + 1 < l.length
  · have h1' : ((i + 1 : Nat) : Int) < ((l.length : Nat) : Int) := by omega
    have hd2 : l.drop (i + 1) = l[i + 1] :: l.drop (i + 1 + 1) := List.drop_eq_getElem_cons h1
    have hg : idx l ((i + 1 : Nat) : Int) = some l[i + 1] := by rw [idx_nat, List.getElem?_eq_getElem h1]
    have hx : ∀ z : Int, strings_IndexByte [92, 123, 125, 124, 46, 35] z = some (Lib.indexByte [92, 123, 125, 124, 46, 35] z.toNat.toUInt8) := fun _ => if_pos trivial
    simp only [h1', decide_true, cond_true, hg, Option.bind_some, hx, special6_ix]
    cases hs : spcB l[i + 1] with
    | true =>
      have ho := settle_ok (m := n + 1) h (Nat.le_refl _)
      have hsub : sub l ((i + 1 : Nat) : Int) ((i + 1 + 1 : Nat) : Int) = some [l[i + 1]] := by
        rw [sub_len (k := 1) (by omega), hd2]; rfl
      have hl2 : (settleS x).t.2.2.2.2.2.2.1 = ((x.line : Nat) : Int) := by show (((settleS x).line : Nat) : Int) = _; rw [settle_line]
      simp only [cond_true, settle_eq h (by omega), Option.bind_some, hsub, hl2]
      rw [put_eq ho _ _ _ (by simp; omega)]
      refine .inr ⟨2, putS (settleS x) [l[i + 1]] x.line ((i + 1 : Nat) : Int), rfl, by omega, by omega, ?_, put_ok ho _ _ _ (by simp) (by simp)⟩
      rw [hT]
      unfold stepS
      rw [hd2]
      simp only [show blkB 92 = false from rfl, Bool.false_eq_true, if_false, if_true, hs]
      rw [textS]
    | false =>
      have hs2 : sub l ((i + 1 : Nat) : Int) ((l.length : Nat) : Int) = some (l.drop (i + 1)) := sub_end (by omega)
      have hne : l.drop (i + 1) ≠ [] := by rw [hd2]; exact List.cons_ne_nil _ _
      have hwd := Lib.decodeL_le (l.drop (i + 1)) hne
      rw [List.length_drop] at hwd
      have hw3 : IntKind.wrap .i64 (((i + 1 : Nat) : Int) + ((Lib.decodeL (l.drop (i + 1))).2 : Int)) = ((i + 1 + (Lib.decodeL (l.drop (i + 1))).2 : Nat) : Int) := by rw [wrap64 (by omega) (by omega)]; omega
      simp only [cond_false, Option.bind_some, hs2, decode_go, decodeGo_L _ hne, hw3]
      rw [sub_len (by omega)]
      simp only [Option.bind_some, hln]
      rw [wrong_eq _ _ _ _ (by decide)]
      refine .inl ⟨⟨42, x.line, ((i + 1 : Nat) : Int), chrB (l.drop (i + 1))⟩, 0, x.t, rfl, ?_⟩
      rw [hT]
      unfold stepS
      rw [hd2]
      simp only [show blkB 92 = false from rfl, Bool.false_eq_true, if_false, if_true]
      simp only [hs, Bool.false_eq_true, if_false]
  · have h1' : ¬ ((i + 1 : Nat) : Int) < ((l.length : Nat) : Int) := by omega
    have hd2 : l.drop (i + 1) = [] := List.drop_eq_nil_of_le (by omega)
    simp only [h1', decide_false, cond_false, Option.bind_some, hln]
    rw [wrong_eq _ _ _ _ (by decide)]
    refine .inl ⟨⟨42, x.line, ((i + 1 : Nat) : Int), []⟩, 0, x.t, rfl, ?_⟩
    rw [hT, hd2]
    rfl
theorem condE (p1 p2 p3 : Bool) (a b c : Bool) (x : LxT) : (bif !p1 then bif !p2 then bif p3 then bif !a then bif b then some (c, x) else some (false, x) else some (false, x) else some (false, x) else some (true, x) else some (true, x)) = some (p1 || p2 || (p3 && !a && b && c), x) := by
  cases p1 <;> cases p2 <;> cases p3 <;> cases a <;> cases b <;> rfl
theorem brace_eq {x : Lx} {n : Nat} (h : x.Ok n) (l : Bs) (i : Nat) (hi : i < l.length) (hb : l[i] = 123) (hl : l.length ≤ 100000) (hn : n ≤ 100000000) : ChrR (mark_lexer__brace x.t l (i : Int)) x l i n := by
  have hd : l.drop i = 123 :: l.drop (i + 1) := by rw [List.drop_eq_getElem_cons hi, hb]
  have hw : IntKind.wrap .i64 ((i : Int) + 1) = ((i + 1 : Nat) : Int) := wrapS (by omega)
  have hT : textS 0 x (i + 1) (l.drop i) = match stepS x (i + 1) 123 (l.drop (i + 1)) with | .error w => .error w | .ok p => textS p.1 p.2 (i + 1 + 1) (l.drop (i + 1)) := by rw [hd]; rfl
  have hs2 : sub l ((i + 1 : Nat) : Int) ((l.length : Nat) : Int) = some (l.drop (i + 1)) := sub_end (by omega)
  have hk := lets_le (l.drop (i + 1))
  rw [List.length_drop] at hk
  unfold mark_lexer__brace
  rw [hw, hs2]
  simp only [Option.bind_some]
  rw [name_eq _ (by rw [List.length_drop]; omega)]
  simp only [Option.bind_some]
  generalize hkd : lets (l.drop (i + 1)) = k at *
  have hw3 : IntKind.wrap .i64 (((i + 1 : Nat) : Int) + (k : Int)) = ((i + 1 + k : Nat) : Int) := by rw [wrap64 (by omega) (by omega)]; omega
  have hw4 : IntKind.wrap .i64 ((1 : Int) + (k : Int)) = ((1 + k : Nat) : Int) := by rw [wrap64 (by omega) (by omega)]; omega
  rw [hw3, hw4]
  have k0 : decide (((k : Nat) : Int) = 0) = (k == 0) := by
    by_cases h : k = 0
    · subst h; rfl
    · have : ¬ ((k : Nat) : Int) = 0 := by omega
      simp [this, h]
  have k12 : decide ((12 : Int) < ((k : Nat) : Int)) = decide (12 < k) := by
    by_cases h : 12 < k
    · have : (12 : Int) < ((k : Nat) : Int) := by omega
      simp [this, h]
    · have : ¬ (12 : Int) < ((k : Nat) : Int) := by omega
      simp [this, h]
  rw [k0, k12]
  have hdd : (l.drop (i + 1)).drop k = l.drop (i + 1 + k) := by rw [List.drop_drop]
  have hE : (bif !(k == 0) then bif !(decide (12 < k)) then bif (decide (((i + 1 + k : Nat) : Int) < ((l.length : Nat) : Int))) then ((Go.Lf.idx l ((i + 1 + k : Nat) : Int))).bind fun r3 =>
   ((Go.Fn.mark_blanked (((UInt8.toNat r3) : Nat) : Int))).bind fun r4 =>
   bif (!r4) then ((Go.Lf.idx l ((i + 1 + k : Nat) : Int))).bind fun r5 =>
   bif (decide (((((UInt8.toNat r5) : Nat) : Int) : Int) ≠ (124 : Int))) then ((Go.Lf.idx l ((i + 1 + k : Nat) : Int))).bind fun r6 =>
   some ((decide (((((UInt8.toNat r6) : Nat) : Int) : Int) ≠ (125 : Int))), x.t)
   else some (false, x.t)
   else some (false, x.t)
   else some (false, x.t)
   else some (true, x.t)
   else some (true, x.t)) = some (endB k ((l.drop (i + 1)).drop k), x.t) := by
    rw [hdd]
    by_cases h1 : i + 1 + k < l.length
    · have h1' : ((i + 1 + k : Nat) : Int) < ((l.length : Nat) : Int) := by omega
      have hg : idx l ((i + 1 + k : Nat) : Int) = some l[i + 1 + k] := by rw [idx_nat, List.getElem?_eq_getElem h1]
      have c1 : decide (((l[i + 1 + k].toNat : Nat) : Int) = 124) = (l[i + 1 + k] == 124) := nat8 _ 124
      have c2 : decide (((l[i + 1 + k].toNat : Nat) : Int) = 125) = (l[i + 1 + k] == 125) := nat8 _ 125
      simp only [h1', decide_true, hg, Option.bind_some, blanked_eq, ne_eq, decide_not, c1, c2]
      rw [condE, List.drop_eq_getElem_cons h1]
      unfold endB
      simp [bne]
    · have h1' : ¬ ((i + 1 + k : Nat) : Int) < ((l.length : Nat) : Int) := by omega
      rw [List.drop_eq_nil_of_le (by omega)]
      simp only [h1', decide_false, cond_false]
      unfold endB
      cases k == 0 <;> cases decide (12 < k) <;> rfl
  rw [hE]
  simp only [Option.bind_some]
  have hln : x.t.2.2.2.2.2.2.1 = ((x.line : Nat) : Int) := rfl
  have hop : x.t.2.1 = x.opn := rfl
  have hst : stepS x (i + 1) 123 (l.drop (i + 1)) = (if endB k ((l.drop (i + 1)).drop k) then .error ⟨43, x.line, ((i + 1 : Nat) : Int), []⟩
     else if 16 ≤ x.opn.length then .error ⟨46, x.line, ((i + 1 : Nat) : Int), (l.drop (i + 1)).take k⟩
     else .ok (k, { tokS x 3 ((l.drop (i + 1)).take k) ((i + 1 : Nat) : Int) with opn := x.opn ++ [((l.drop (i + 1)).take k, (x.line : Int), ((i + 1 : Nat) : Int), ())], fresh := true })) := by
    unfold stepS
    rw [hkd]
    simp only [show blkB 123 = false from rfl, Bool.false_eq_true, if_false, show ¬ ((123 : UInt8) = 92) by decide, if_true]
  cases he : endB k ((l.drop (i + 1)).drop k) with
  | true =>
    simp only [cond_true, hln]
    rw [wrong_eq _ _ _ _ (by decide)]
    refine .inl ⟨⟨43, x.line, ((i + 1 : Nat) : Int), []⟩, 0, x.t, rfl, ?_⟩
    rw [hT, hst, he]
    rfl
  | false =>
    rw [he] at hst
    simp only [cond_false]
    rw [sub_len (by omega)]
    simp only [Option.bind_some, hop]
    by_cases h16 : 16 ≤ x.opn.length
    · have h16' : (16 : Int) ≤ ((x.opn.length : Nat) : Int) := by omega
      simp only [h16', decide_true, cond_true, hln]
      rw [wrong_eq _ _ _ _ (by decide)]
      refine .inl ⟨⟨46, x.line, ((i + 1 : Nat) : Int), (l.drop (i + 1)).take k⟩, 0, x.t, rfl, ?_⟩
      rw [hT, hst, if_neg (by decide), if_pos h16]
    · have h16' : ¬ (16 : Int) ≤ ((x.opn.length : Nat) : Int) := by omega
      have ht := tok_ok (m := n + 3) h 3 ((l.drop (i + 1)).take k) ((i + 1 : Nat) : Int) (Nat.le_refl _)
      simp only [h16', decide_false, cond_false]
      rw [token_eq h _ _ _ (by omega)]
      have e1 : (tokS x 3 ((l.drop (i + 1)).take k) ((i + 1 : Nat) : Int)).t.2.1 = x.opn := tok_opn x 3 ((l.drop (i + 1)).take k) ((i + 1 : Nat) : Int)
      have e2 : (tokS x 3 ((l.drop (i + 1)).take k) ((i + 1 : Nat) : Int)).t.2.2.2.2.2.2.1 = ((x.line : Nat) : Int) := by rw [← tok_line x 3 ((l.drop (i + 1)).take k) ((i + 1 : Nat) : Int)]; rfl
      have ha : app 32 x.opn [((l.drop (i + 1)).take k, ((x.line : Nat) : Int), ((i + 1 : Nat) : Int), ())] = some (x.opn ++ [((l.drop (i + 1)).take k, ((x.line : Nat) : Int), ((i + 1 : Nat) : Int), ())]) := app_of (by simp; omega)
      simp only [Option.bind_some, e1, e2, ha]
      refine .inr ⟨1 + k, { tokS x 3 ((l.drop (i + 1)).take k) ((i + 1 : Nat) : Int) with opn := x.opn ++ [((l.drop (i + 1)).take k, ((x.line : Nat) : Int), ((i + 1 : Nat) : Int), ())], fresh := true }, rfl, by omega, by omega, ?_, ?_⟩
      · rw [hT, hst, if_neg (by decide), if_neg h16]
        show textS k _ (i + 1 + 1) (l.drop (i + 1)) = _
        rw [textS_skip k _ _ _ (by rw [List.length_drop]; omega), hdd]
        congr 1
        · omega
        · congr 1; omega
      · exact ⟨Nat.le_trans ht.out (by omega), by simp; omega, fun r hr => (by cases hr), ht.bl⟩
theorem tok_bl (x : Lx) (k : Int) (s : Bs) (c : Int) : (tokS x k s c).bl = none := by
  show (settleS x).bl = none
  unfold settleS
  split
  · assumption
  · rfl
theorem char_eq {x : Lx} {n : Nat} (h : x.Ok n) (l : Bs) (i : Nat) (hi : i < l.length) (hl : l.length ≤ 100000) (hn : n ≤ 100000000) : ChrR (mark_lexer__char x.t l (i : Int)) x l i n := by
  have hd : l.drop i = l[i] :: l.drop (i + 1) := List.drop_eq_getElem_cons hi
  have hw : IntKind.wrap .i64 ((i : Int) + 1) = ((i + 1 : Nat) : Int) := wrapS (by omega)
  have hg : idx l (i : Int) = some l[i] := by rw [idx_nat, List.getElem?_eq_getElem hi]
  have hT : textS 0 x (i + 1) (l.drop i) = match stepS x (i + 1) l[i] (l.drop (i + 1)) with | .error w => .error w | .ok p => textS p.1 p.2 (i + 1 + 1) (l.drop (i + 1)) := by rw [hd]; rfl
  have hln : x.t.2.2.2.2.2.2.1 = ((x.line : Nat) : Int) := rfl
  have hop : x.t.2.1 = x.opn := rfl
  have c1 : decide (((l[i].toNat : Nat) : Int) = 92) = (l[i] == 92) := nat8 _ 92
  have c2 : decide (((l[i].toNat : Nat) : Int) = 123) = (l[i] == 123) := nat8 _ 123
  have c3 : decide (((l[i].toNat : Nat) : Int) = 125) = (l[i] == 125) := nat8 _ 125
  have c4 : decide (((l[i].toNat : Nat) : Int) = 124) = (l[i] == 124) := nat8 _ 124
  unfold mark_lexer__char
  simp only [hg, Option.bind_some, blanked_eq, hw, c1, c2, c3, c4, hln, hop]
  cases hbk : blkB l[i] with
  | true =>
    simp only [cond_true]
    rw [wait_eq h]
    refine .inr ⟨1, waitS x ((i + 1 : Nat) : Int), rfl, by omega, by omega, ?_, (wait_ok h _ (by omega)).mono (by omega)⟩
    rw [hT]
    unfold stepS
    rw [hbk]
    rfl
  | false =>
    simp only [cond_false]
    by_cases h92 : l[i] = 92
    · have hE := escape_eq h l i hi h92 hl hn
      simp only [h92, beq_self_eq_true, cond_true]
      rcases hE with ⟨w, k, t, e, e2⟩ | ⟨k, y, e, e2⟩
      · rw [e]; exact .inl ⟨w, k, t, rfl, e2⟩
      · rw [e]; exact .inr ⟨k, y, rfl, e2⟩
    have b92 : (l[i] == 92) = false := by simpa using h92
    by_cases h123 : l[i] = 123
    · have hE := brace_eq h l i hi h123 hl hn
      rw [b92]
      simp only [h123, beq_self_eq_true, cond_true, cond_false]
      rcases hE with ⟨w, k, t, e, e2⟩ | ⟨k, y, e, e2⟩
      · rw [e]; exact .inl ⟨w, k, t, rfl, e2⟩
      · rw [e]; exact .inr ⟨k, y, rfl, e2⟩
    have b123 : (l[i] == 123) = false := by simpa using h123
    by_cases h125 : l[i] = 125
    · have hst : stepS x (i + 1) l[i] (l.drop (i + 1)) = (if x.opn = [] then .error ⟨44, x.line, ((i + 1 : Nat) : Int), []⟩ else .ok (0, { tokS x 5 [] ((i + 1 : Nat) : Int) with opn := x.opn.dropLast })) := by
        unfold stepS
        simp only [show blkB 125 = false from rfl, h125, Bool.false_eq_true, if_false, show ¬ ((125 : UInt8) = 92) by decide, show ¬ ((125 : UInt8) = 123) by decide, if_true]
      rw [b92, b123]
      simp only [h125, beq_self_eq_true, cond_true, cond_false]
      rw [hst] at hT
      by_cases ho : x.opn = []
      · rw [if_pos ho] at hT
        simp only [ho, List.length_nil]
        rw [wrong_eq _ _ _ _ (by decide)]
        exact .inl ⟨⟨44, x.line, ((i + 1 : Nat) : Int), []⟩, 0, x.t, rfl, hT⟩
      · rw [if_neg ho] at hT
        have hpos := List.length_pos_iff.2 ho
        have h16 := h.opn
        have h0 : ¬ ((x.opn.length : Nat) : Int) = 0 := by omega
        have ht := tok_ok (m := n + 3) h 5 [] ((i + 1 : Nat) : Int) (Nat.le_refl _)
        have e1 : (tokS x 5 [] ((i + 1 : Nat) : Int)).t.2.1 = x.opn := tok_opn x 5 [] ((i + 1 : Nat) : Int)
        have hw5 : IntKind.wrap .i64 (((x.opn.length : Nat) : Int) - 1) = ((x.opn.length - 1 : Nat) : Int) := by rw [wrap64 (by omega) (by omega)]; omega
        have hsb : sub x.opn (0 : Int) ((x.opn.length - 1 : Nat) : Int) = some x.opn.dropLast := by
          have := sub_nat (l := x.opn) (a := 0) (b := x.opn.length - 1) (by omega) (by omega)
          rw [List.dropLast_eq_take]
          simpa using this
        simp only [h0, decide_false, cond_false]
        rw [token_eq h _ _ _ (by omega)]
        simp only [Option.bind_some, e1, hw5, hsb]
        refine .inr ⟨1, { tokS x 5 [] ((i + 1 : Nat) : Int) with opn := x.opn.dropLast }, rfl, by omega, by omega, hT, ?_⟩
        exact ⟨Nat.le_trans ht.out (by omega), by simp; omega, fun r hr => (by cases hr), ht.bl⟩
    have b125 : (l[i] == 125) = false := by simpa using h125
    rw [b92, b123, b125]
    simp only [cond_false]
    have hbar : (bif (l[i] == 124) then some ((decide ((0 : Int) < (((List.length x.opn) : Nat) : Int))), x.t) else some (false, x.t)) = some ((l[i] == 124) && decide (x.opn ≠ []), x.t) := by
      have : decide ((0 : Int) < (((List.length x.opn) : Nat) : Int)) = decide (x.opn ≠ []) := by
        cases x.opn with
        | nil => rfl
        | cons a b => simp
      rw [this]
      cases l[i] == 124 <;> rfl
    rw [hbar]
    simp only [Option.bind_some]
    by_cases hbr : l[i] = 124 ∧ x.opn ≠ []
    · have e : ((l[i] == 124) && decide (x.opn ≠ [])) = true := by simp [hbr.1, hbr.2]
      rw [e]
      simp only [cond_true]
      rw [token_eq h _ _ _ (by omega)]
      refine .inr ⟨1, tokS x 4 [] ((i + 1 : Nat) : Int), rfl, by omega, by omega, ?_, tok_ok h _ _ _ (by omega)⟩
      rw [hT]
      unfold stepS
      simp only [hbk, Bool.false_eq_true, if_false, h92, h123, h125]
      rw [if_pos hbr]
    · have e : ((l[i] == 124) && decide (x.opn ≠ [])) = false := by
        by_cases q : l[i] = 124
        · have : x.opn = [] := Classical.byContradiction fun hc => hbr ⟨q, hc⟩
          simp [this]
        · simp [q]
      rw [e]
      simp only [cond_false]
      have hs2 : sub l (i : Int) ((l.length : Nat) : Int) = some (l.drop i) := sub_end (by omega)
      have hne : l.drop i ≠ [] := by rw [hd]; exact List.cons_ne_nil _ _
      have hle := Lib.decodeL_le (l.drop i) hne
      have hpos := Lib.decodeL_width (l.drop i)
      have hcont := conts_dull l[i] (l.drop (i + 1))
      rw [← hd] at hcont
      rw [List.length_drop] at hle
      simp only [hs2, decode_go, decodeGo_L _ hne, Option.bind_some]
      have hle4 : (Lib.decodeL (l.drop i)).2 ≤ 4 := by rw [Lib.decodeL_N]; exact (Lib.decodeN_conts _ _ _ _ _).2.2.2
      generalize (Lib.decodeL (l.drop i)).2 = w at hle hle4 hpos hcont ⊢
      obtain ⟨v, rfl⟩ : ∃ v, w = v + 1 := ⟨w - 1, by omega⟩
      rw [Nat.add_sub_cancel] at hcont
      have hst : stepS x (i + 1) l[i] (l.drop (i + 1)) = .ok (0, putS (settleS x) [l[i]] x.line ((i + 1 : Nat) : Int)) := by
        unfold stepS
        simp only [hbk, Bool.false_eq_true, if_false, h92, h123, h125]
        rw [if_neg hbr]
      rw [hst] at hT
      have hT : textS 0 x (i + 1) (l.drop i) = textS 0 (putS (settleS x) [l[i]] x.line ((i + 1 : Nat) : Int)) (i + 1 + 1) (l.drop (i + 1)) := hT
      have hc2 : ∀ d ∈ (l.drop (i + 1)).take v, dullB d = true := hcont
      have hsp : l.drop (i + 1) = (l.drop (i + 1)).take v ++ l.drop (i + (v + 1)) := by
        have := (List.take_append_drop v (l.drop (i + 1))).symm
        rw [List.drop_drop] at this
        rw [show i + (v + 1) = i + 1 + v by omega]
        exact this
      have hlen : ((l.drop (i + 1)).take v).length = v := by rw [List.length_take, List.length_drop]; omega
      have htk : (l.drop i).take (v + 1) = [l[i]] ++ (l.drop (i + 1)).take v := by rw [hd]; rfl
      have ho := settle_ok (m := n + 1) h (Nat.le_refl _)
      have hw6 : IntKind.wrap .i64 ((i : Int) + ((v + 1 : Nat) : Int)) = ((i + (v + 1) : Nat) : Int) := by rw [wrap64 (by omega) (by omega)]; omega
      have hl2 : (settleS x).t.2.2.2.2.2.2.1 = ((x.line : Nat) : Int) := by show (((settleS x).line : Nat) : Int) = _; rw [settle_line]
      have hv4 : v + 1 ≤ 4 := hle4
      rw [settle_eq h (by omega)]
      simp only [Option.bind_some, hw6, hl2]
      rw [sub_len (by omega)]
      simp only [Option.bind_some]
      rw [put_eq ho _ _ _ (by rw [htk]; simp; omega)]
      refine .inr ⟨v + 1, putS (settleS x) ((l.drop i).take (v + 1)) x.line ((i + 1 : Nat) : Int), rfl, by omega, by omega, ?_, put_ok ho _ _ _ (by rw [htk]; simp) (by rw [htk]; simp; omega)⟩
      rw [hT, hsp, text_dull _ _ _ _ _ _ hc2, hlen, htk]
      congr 1; omega
end Go.Fn
/- Chapter 4, plainly: a line of text, a line, a source. -/
namespace Go.Fn
open Go Go.Lf
theorem text_loop {l : Bs} (hl : l.length ≤ 100000) (B : Int × LxT → Option ((Int × LxT) ⊕ (LxT ⊕ (ErrT × LxT)))) (hB : ∀ z2, B z2 = (bif (decide (z2.1 < (((List.length l) : Nat) : Int))) then ((Go.Fn.mark_lexer__char z2.2 l z2.1)).bind fun r3 =>
     bif (Option.isSome r3.2.1) then some (.inr (.inr (r3.2.1, r3.2.2)))
     else some (.inl ((Go.IntKind.wrap .i64 (z2.1 + r3.1)), r3.2.2))
     else some (.inr (.inl z2.2)))) : ∀ (m i n : Nat) (x : Lx), l.length ≤ i + m → i ≤ l.length → x.Ok n → n + 8 * (l.length - i) ≤ 100000000 →
     (∃ w t, loopC B ((i : Int), x.t) = some (.inr (Wr.e w, t)) ∧ textS 0 x (i + 1) (l.drop i) = .error w) ∨
     (∃ y : Lx, loopC B ((i : Int), x.t) = some (.inl y.t) ∧ textS 0 x (i + 1) (l.drop i) = .ok (waitS y ((l.length + 1 : Nat) : Int)) ∧ y.Ok (n + 8 * (l.length - i)))
  | 0, i, n, x, hm, hi, h, hn => by
    have h0 : ¬ (i : Int) < ((l.length : Nat) : Int) := by omega
    have he : i = l.length := by omega
    refine .inr ⟨x, ?_, ?_, h.mono (by omega)⟩
    · rw [loopC_step, hB]
      simp only [h0, decide_false, cond_false, Option.bind_some]
    · subst he
      rw [List.drop_length, textS]
  | m + 1, i, n, x, hm, hi, h, hn => by
    by_cases h0 : i < l.length
    · have h0' : (i : Int) < ((l.length : Nat) : Int) := by omega
      rcases char_eq h l i h0 hl (by omega) with ⟨w, k, t, e, e2⟩ | ⟨k, y, e, k1, k2, e2, hy⟩
      · refine .inl ⟨w, t, ?_, e2⟩
        rw [loopC_step, hB]
        simp only [h0', decide_true, cond_true, e, Option.bind_some]
        rfl
      · have hw : IntKind.wrap .i64 ((i : Int) + (k : Int)) = ((i + k : Nat) : Int) := by rw [wrap64 (by omega) (by omega)]; omega
        have hs : loopC B ((i : Int), x.t) = loopC B (((i + k : Nat) : Int), y.t) := by
          rw [loopC_step, hB]
          simp only [h0', decide_true, cond_true, e, Option.bind_some, hw]
          rfl
        rw [hs, e2]
        have ih := text_loop hl B hB m (i + k) (n + 8) y (by omega) k2 hy (by omega)
        rcases ih with ⟨w, t, q1, q2⟩ | ⟨z, q1, q2, q3⟩
        · exact .inl ⟨w, t, q1, q2⟩
        · exact .inr ⟨z, q1, q2, q3.mono (by omega)⟩
    · have h0' : ¬ (i : Int) < ((l.length : Nat) : Int) := by omega
      have he : i = l.length := by omega
      refine .inr ⟨x, ?_, ?_, h.mono (by omega)⟩
      · rw [loopC_step, hB]
        simp only [h0', decide_false, cond_false, Option.bind_some]
      · subst he
        rw [List.drop_length, textS]
def beginS (x : Lx) : Lx := if x.ins = false then { x with ins := true, fresh := true } else x
theorem begin_ok {x : Lx} {n : Nat} (h : x.Ok n) : (beginS x).Ok n := by
  unfold beginS
  split
  · exact ⟨h.out, h.opn, h.run, h.bl⟩
  · exact h
/-- a state within bounds, told by a function -/
def ResK (r : Option (ErrT × LxT)) (s : Except Wr Lx) (n : Nat) : Prop := match s with
  | .ok y => r = some (none, y.t) ∧ y.Ok n
  | .error w => ∃ t, r = some (w.e, t)
theorem text_eq {x : Lx} {n : Nat} (h : x.Ok n) (l : Bs) (hl : l.length ≤ 100000) (hn : n ≤ 90000000) : ResK (mark_lexer__text x.t l) (textS 0 (beginS x) 1 l) (n + 8 * l.length) := by
  unfold mark_lexer__text
  have hb : (bif (decide ((x.t.2.2.1 : Int) = (0 : Int))) then some (x.t.1, (x.t.2.1, ((1 : Int), (x.t.2.2.2.1, (x.t.2.2.2.2.1, ((1 : Int), x.t.2.2.2.2.2.2)))))) else some x.t) = some (beginS x).t := by
    have e0 : x.t.2.2.1 = bI x.ins := rfl
    rw [e0, bI_zero]
    unfold beginS
    cases hi : x.ins <;> simp [Lx.t, bI, hi]
  have hL := text_loop hl _ (fun _ => rfl) l.length 0 n (beginS x) (by omega) (by omega) (begin_ok h) (by omega)
  rw [hb]
  simp only [Option.bind_some]
  have e0 : l.drop 0 = l := rfl
  rw [e0] at hL
  rcases hL with ⟨w, t, q1, q2⟩ | ⟨y, q1, q2, q3⟩
  · have q1 : loopC _ ((0 : Int), (beginS x).t) = _ := q1
    rw [q1, q2]
    exact ⟨t, rfl⟩
  · have q1 : loopC _ ((0 : Int), (beginS x).t) = _ := q1
    have hw : IntKind.wrap .i64 (((l.length : Nat) : Int) + 1) = ((l.length + 1 : Nat) : Int) := wrapS (by omega)
    rw [q1, q2]
    simp only [Option.bind_some, hw, onSum]
    rw [wait_eq q3]
    exact ⟨rfl, wait_ok (q3.mono (by omega)) _ (by omega)⟩
def untab (l : Bs) : Bs := l.map fun b => if b = 9 then 32 else b
theorem index_nil1 (c : UInt8) : Lib.index [] [c] = -1 := by rw [Lib.index_one]; rfl
theorem index_cons1 (b c : UInt8) (r : Bs) : Lib.index (b :: r) [c] = if b = c then 0 else if Lib.index r [c] = -1 then -1 else Lib.index r [c] + 1 := by
  rw [Lib.index_one, Lib.index_one, Lib.indexByte]
  by_cases h : b = c
  · simp [h]
  · simp [h]
theorem replaceK_tab : ∀ (l : Bs) (k : Nat), l.count 9 ≤ k → Lib.replaceK [9] [32] k l = untab l
  | [], k, _ => by
    cases k with
    | zero => rfl
    | succ k => rw [Lib.replaceK, index_nil1]; rfl
  | b :: r, k, h => by
    by_cases hb : b = 9
    · subst hb
      rw [List.count_cons_self] at h
      obtain ⟨k, rfl⟩ : ∃ k', k = k' + 1 := ⟨k - 1, by omega⟩
      have h0 : Lib.index (9 :: r) [9] = ((0 : Nat) : Int) := by rw [index_cons1]; rfl
      rw [Lib.replaceK_hit _ _ _ _ 0 h0]
      have := replaceK_tab r k (by omega)
      simpa [untab] using this
    · rw [List.count_cons_of_ne (by exact fun e => hb e)] at h
      have ih := replaceK_tab r k h
      have hc : Lib.replaceK [9] [32] k (b :: r) = b :: Lib.replaceK [9] [32] k r := by
        cases k with
        | zero => rfl
        | succ k =>
          have hix := index_cons1 b 9 r
          rw [if_neg hb] at hix
          by_cases hm : Lib.index r [9] = -1
          · rw [if_pos hm] at hix
            rw [Lib.replaceK, Lib.replaceK, hix, hm]
            rfl
          · rw [if_neg hm] at hix
            have hge := Lib.index_ge r [9]
            obtain ⟨i, hi⟩ : ∃ i : Nat, Lib.index r [9] = i := ⟨(Lib.index r [9]).toNat, by omega⟩
            rw [Lib.replaceK_hit _ _ _ r i hi, Lib.replaceK_hit _ _ _ (b :: r) (i + 1) (by rw [hix, hi]; rfl)]
            rfl
      rw [hc, ih]
      simp [untab, hb]
theorem replace_tab (l : Bs) : Lib.replaceAll l [9] [32] = untab l := by
  unfold Lib.replaceAll Lib.replace
  rw [if_neg (by decide)]
  refine replaceK_tab l _ ?_
  unfold Lib.replaceNum
  rw [if_pos (.inl (by decide)), Lib.count_one]
  exact Nat.le_refl _
theorem untab_len (l : Bs) : (untab l).length = l.length := List.length_map _
/-- is a text plain, and where not? -/
def plainS (l : Bs) : Int × Bool := plainF ⟨l.toArray⟩ l.length 0
theorem plainF_le (s : ByteArray) : ∀ (f p : Nat), 0 ≤ (plainF s f p).1 ∧ (plainF s f p).1 ≤ (s.size : Int)
  | 0, p => by simp [plainF]
  | f + 1, p => by
    unfold plainF
    split
    · split
      · exact ⟨by simp, by simp; omega⟩
      · exact plainF_le s f _
    · simp
def chkS (line : Nat) (l : Bs) : Option Wr :=
  if 4096 < l.length then some ⟨2, line, 1, []⟩ else if (plainS (untab l)).2 then none else some ⟨40, line, (plainS (untab l)).1 + 1, []⟩
def endB' (k : Nat) (r : Bs) : Bool := k == 0 || decide (12 < k) || (match r with | [] => false | d :: _ => !(blkB d))
def dirS (x : Lx) (l : Bs) : Except Wr Lx :=
  if endB' (lets (l.drop 1)) (l.drop (1 + lets (l.drop 1))) then .error ⟨41, x.line, 2, (l.drop 1).take (min (lets (l.drop 1)) 12)⟩
  else match endS x with
    | .error w => .error w
    | .ok y => .ok { y with out := y.out ++ [(1, (l.drop 1).take (lets (l.drop 1)), Lib.trimS (l.drop (1 + lets (l.drop 1))) [32, 9], (y.line : Int), 1, ())] }
/-- a line -/
def takeS (x : Lx) (l : Bs) : Except Wr Lx := match chkS x.line l with
  | some w => .error w
  | none =>
    if Lib.hasPrefix l [35] then .ok x
    else if Lib.trimS l [32, 9] = [] then (match endS x with
      | .error w => .error w
      | .ok y => .ok { y with out := y.out ++ [(2, [], [], (y.line : Int), 1, ())] })
    else if l.head? = some 46 then dirS x l
    else textS 0 (beginS x) 1 l
theorem check_eq (x : Lx) (l : Bs) (hl : l.length ≤ 65536) : match chkS x.line l with
    | some w => mark_lexer__check x.t l = some (w.e, x.t)
    | none => mark_lexer__check x.t l = some (none, x.t) := by
  have hln : x.t.2.2.2.2.2.2.1 = ((x.line : Nat) : Int) := rfl
  unfold mark_lexer__check chkS
  by_cases h : 4096 < l.length
  · have h' : (4096 : Int) < ((l.length : Nat) : Int) := by omega
    rw [if_pos h]
    simp only [h', decide_true, cond_true, hln]
    rw [wrong_eq _ _ _ _ (by decide)]
    rfl
  · have h' : ¬ (4096 : Int) < ((l.length : Nat) : Int) := by omega
    rw [if_neg h]
    have hcb := Lib.countB_le ⟨#[9]⟩ (by decide) l.length ⟨l.toArray⟩
    have hsz : (⟨l.toArray⟩ : ByteArray).size = l.length := Eng.str_size l
    rw [hsz] at hcb
    have hr : strings_ReplaceAll l [9] [32] = some (untab l) := by
      unfold strings_ReplaceAll
      have hc : Lib.countB ⟨l.toArray⟩ ⟨[(9 : UInt8)].toArray⟩ ≤ l.length := hcb (Nat.le_refl _)
      have hC : l.length < 4294967281 ∧ 1 ≤ ([9] : Bs).length ∧ l.length + Lib.countB ⟨l.toArray⟩ ⟨[(9 : UInt8)].toArray⟩ * ([32] : Bs).length ≤ 140737488355328 := ⟨by omega, by decide, by simp only [List.length_singleton]; omega⟩
      rw [if_pos hC, replace_tab]
    have hp : text_Plain (untab l) = some (plainS (untab l)) := if_pos (by rw [untab_len]; omega)
    have hb := plainF_le ⟨(untab l).toArray⟩ (untab l).length 0
    have hsz2 : (⟨(untab l).toArray⟩ : ByteArray).size = l.length := (Eng.str_size (untab l)).trans (untab_len l)
    rw [hsz2] at hb
    have hw : IntKind.wrap .i64 ((plainS (untab l)).1 + 1) = (plainS (untab l)).1 + 1 := by
      unfold plainS
      rw [wrap64 (by omega) (by omega)]
    simp only [h', decide_false, cond_false, hr, Option.bind_some, hp, hw, hln]
    cases hq : (plainS (untab l)).2 with
    | true => rfl
    | false =>
      simp only [Bool.not_false, cond_true]
      rw [wrong_eq _ _ _ _ (by decide)]
      rfl
theorem condD (p1 p2 p3 a : Bool) (x : LxT) (hx : p3 = false → a = true) : (bif !p1 then bif !p2 then bif p3 then some (!a, x) else some (false, x) else some (true, x) else some (true, x)) = some (p1 || p2 || (p3 && !a), x) := by
  cases p1 <;> cases p2 <;> cases p3 <;> rfl
theorem trim_eq (l : Bs) (hl : l.length ≤ 65536) : strings_Trim l [32, 9] = some (Lib.trimS l [32, 9]) := if_pos ⟨by omega, by decide, by decide⟩
theorem directive_eq {x : Lx} {n : Nat} (h : x.Ok n) (l : Bs) (hl : l.length ≤ 65536) (hd0 : l ≠ []) (hn : n ≤ 90000000) : ResK (mark_lexer__directive x.t l) (dirS x l) (n + 2) := by
  have hpos := List.length_pos_iff.2 hd0
  have hk := lets_le (l.drop 1)
  rw [List.length_drop] at hk
  unfold mark_lexer__directive dirS
  have hs1 : sub l (1 : Int) ((l.length : Nat) : Int) = some (l.drop 1) := sub_end (a := 1) (by omega)
  rw [hs1]
  simp only [Option.bind_some]
  rw [name_eq _ (by rw [List.length_drop]; omega)]
  simp only [Option.bind_some]
  generalize lets (l.drop 1) = k at *
  have hw : IntKind.wrap .i64 ((1 : Int) + (k : Int)) = ((1 + k : Nat) : Int) := by rw [wrap64 (by omega) (by omega)]; omega
  have hw2 : IntKind.wrap .i64 ((1 : Int) + min (k : Int) 12) = ((1 + min k 12 : Nat) : Int) := by rw [wrap64 (by omega) (by omega)]; omega
  have hs2 : sub l ((1 + k : Nat) : Int) ((l.length : Nat) : Int) = some (l.drop (1 + k)) := sub_end (by omega)
  have hs3 : sub l (1 : Int) ((1 + k : Nat) : Int) = some ((l.drop 1).take k) := sub_len (a := 1) (by omega)
  have hs4 : sub l (1 : Int) ((1 + min k 12 : Nat) : Int) = some ((l.drop 1).take (min k 12)) := sub_len (a := 1) (by omega)
  have k0 : decide (((k : Nat) : Int) = 0) = (k == 0) := by
    by_cases h : k = 0
    · subst h; rfl
    · have : ¬ ((k : Nat) : Int) = 0 := by omega
      simp [this, h]
  have k12 : decide ((12 : Int) < ((k : Nat) : Int)) = decide (12 < k) := by
    by_cases h : 12 < k
    · have : (12 : Int) < ((k : Nat) : Int) := by omega
      simp [this, h]
    · have : ¬ (12 : Int) < ((k : Nat) : Int) := by omega
      simp [this, h]
  rw [hw, hw2, hs2]
  simp only [Option.bind_some, k0, k12]
  have hE : (bif !(k == 0) then bif !(decide (12 < k)) then bif (decide ((l.drop (1 + k) : List (UInt8)) ≠ ([] : List (UInt8)))) then ((Go.Lf.idx (l.drop (1 + k)) (0 : Int))).bind fun r4 =>
   ((Go.Fn.mark_blanked (((UInt8.toNat r4) : Nat) : Int))).bind fun r5 =>
   some ((!r5), x.t)
   else some (false, x.t)
   else some (true, x.t)
   else some (true, x.t)) = some (endB' k (l.drop (1 + k)), x.t) := by
    unfold endB'
    cases hd : l.drop (1 + k) with
    | nil => cases k == 0 <;> cases decide (12 < k) <;> rfl
    | cons d r =>
      have hg : idx (d :: r) (0 : Int) = some d := idx_nat (d :: r) 0
      simp only [hg, Option.bind_some, blanked_eq]
      cases k == 0 <;> cases decide (12 < k) <;> simp
  rw [hE]
  simp only [Option.bind_some]
  have hln : x.t.2.2.2.2.2.2.1 = ((x.line : Nat) : Int) := rfl
  cases he : endB' k (l.drop (1 + k)) with
  | true =>
    simp only [cond_true, hs4, Option.bind_some, hln]
    rw [wrong_eq _ _ _ _ (by decide)]
    exact ⟨x.t, rfl⟩
  | false =>
    have hq := end_eq h (by omega)
    simp only [cond_false, Bool.false_eq_true, if_false]
    cases hend : endS x with
    | error w =>
      rw [hend] at hq
      obtain ⟨t, ht⟩ := hq
      rw [ht]
      simp only [Option.bind_some, Wr.e, Option.isSome_some, cond_true]
      exact ⟨t, rfl⟩
    | ok y =>
      rw [hend] at hq
      have hq : mark_lexer__end x.t = some (none, y.t) := hq
      have hy := end_ok (m := n + 1) h (Nat.le_refl _) hend
      have ho := hy.out
      have e1 : y.t.1 = y.out := rfl
      have e2 : y.t.2.2.2.2.2.2.1 = ((y.line : Nat) : Int) := rfl
      have htr := trim_eq (l.drop (1 + k)) (by rw [List.length_drop]; omega)
      have ha : app 56 y.out [((1 : Int), (l.drop 1).take k, Lib.trimS (l.drop (1 + k)) [32, 9], ((y.line : Nat) : Int), (1 : Int), ())] = some (y.out ++ [((1 : Int), (l.drop 1).take k, Lib.trimS (l.drop (1 + k)) [32, 9], ((y.line : Nat) : Int), (1 : Int), ())]) := app_of (by simp; omega)
      rw [hq]
      simp only [Option.bind_some, Option.isSome_none, cond_false, hs3, htr, e1, e2, ha]
      refine ⟨rfl, ?_, hy.opn, (hy.mono (by omega)).run, hy.bl⟩
      simp; omega
theorem take_eq {x : Lx} {n : Nat} (h : x.Ok n) (l : Bs) (hl : l.length ≤ 65536) (hn : n ≤ 90000000) : ResK (mark_lexer__take x.t l) (takeS x l) (n + 8 * l.length + 2) := by
  have hc := check_eq x l hl
  unfold mark_lexer__take takeS
  cases hck : chkS x.line l with
  | some w =>
    rw [hck] at hc
    have hc : mark_lexer__check x.t l = some (w.e, x.t) := hc
    rw [hc]
    simp only [Option.bind_some, Wr.e, Option.isSome_some, cond_true]
    exact ⟨x.t, rfl⟩
  | none =>
    rw [hck] at hc
    have hc : mark_lexer__check x.t l = some (none, x.t) := hc
    have hp : strings_HasPrefix l [35] = some (Lib.hasPrefix l [35]) := if_pos trivial
    rw [hc]
    simp only [Option.bind_some, Option.isSome_none, cond_false, hp]
    cases hpp : Lib.hasPrefix l [35] with
    | true => exact ⟨rfl, h.mono (by omega)⟩
    | false =>
      simp only [cond_false, trim_eq l hl, Option.bind_some, Bool.false_eq_true, if_false]
      by_cases ht : Lib.trimS l [32, 9] = []
      · have hq := end_eq h (by omega)
        simp only [ht, decide_true, cond_true, if_true]
        cases hend : endS x with
        | error w =>
          rw [hend] at hq
          obtain ⟨t, ht⟩ := hq
          rw [ht]
          simp only [Option.bind_some, Wr.e, Option.isSome_some, cond_true]
          exact ⟨t, rfl⟩
        | ok y =>
          rw [hend] at hq
          have hq : mark_lexer__end x.t = some (none, y.t) := hq
          have hy := end_ok (m := n + 1) h (Nat.le_refl _) hend
          have ho := hy.out
          have e1 : y.t.1 = y.out := rfl
          have e2 : y.t.2.2.2.2.2.2.1 = ((y.line : Nat) : Int) := rfl
          have ha : app 56 y.out [((2 : Int), ([] : Bs), ([] : Bs), ((y.line : Nat) : Int), (1 : Int), ())] = some (y.out ++ [((2 : Int), ([] : Bs), ([] : Bs), ((y.line : Nat) : Int), (1 : Int), ())]) := app_of (by simp; omega)
          rw [hq]
          simp only [Option.bind_some, Option.isSome_none, cond_false, e1, e2, ha]
          refine ⟨rfl, ?_, hy.opn, (hy.mono (by omega)).run, hy.bl⟩
          simp; omega
      · have hne : l ≠ [] := fun e => ht (by rw [e]; rfl)
        obtain ⟨b, r, rfl⟩ := List.exists_cons_of_ne_nil hne
        have hg : idx (b :: r) (0 : Int) = some b := idx_nat (b :: r) 0
        have c1 : decide (((b.toNat : Nat) : Int) = 46) = (b == 46) := nat8 _ 46
        simp only [ht, decide_false, cond_false, if_false, hg, Option.bind_some, c1, List.head?_cons, Option.some.injEq]
        by_cases hb : b = 46
        · have hD := directive_eq h (b :: r) hl hne hn
          simp only [hb, beq_self_eq_true, cond_true, if_true] at hD ⊢
          cases hdir : dirS x (46 :: r) with
          | error w =>
            rw [hdir] at hD
            obtain ⟨t, e⟩ := hD
            rw [e]; exact ⟨t, rfl⟩
          | ok y =>
            rw [hdir] at hD
            obtain ⟨e, ho⟩ := hD
            rw [e]; exact ⟨rfl, ho.mono (by omega)⟩
        · have hD := text_eq h (b :: r) (by omega) hn
          have hb' : (b == 46) = false := by simpa using hb
          simp only [hb', hb, cond_false, if_false]
          cases hdir : textS 0 (beginS x) 1 (b :: r) with
          | error w =>
            rw [hdir] at hD
            obtain ⟨t, e⟩ := hD
            rw [e]; exact ⟨t, rfl⟩
          | ok y =>
            rw [hdir] at hD
            obtain ⟨e, ho⟩ := hD
            rw [e]; exact ⟨rfl, ho.mono (by omega)⟩
end Go.Fn
/- Chapter 4, plainly: a source. -/
namespace Go.Fn
open Go Go.Lf
/-- a source's lines, with their returns -/
def linesA (cur : Bs) : Bs → List Bs
  | [] => if cur = [] then [] else [cur]
  | b :: r => if b = 10 then cur :: linesA [] r else linesA (cur ++ [b]) r
theorem linesA_cut : ∀ (a cur r : Bs), 10 ∉ a → linesA cur (a ++ 10 :: r) = (cur ++ a) :: linesA [] r
  | [], cur, r, _ => by simp [linesA]
  | b :: a, cur, r, h => by
    have hb : b ≠ 10 := fun e => h (by simp [e])
    rw [List.cons_append, linesA, if_neg hb, linesA_cut a (cur ++ [b]) r (fun e => h (by simp [e]))]
    simp
theorem linesA_end : ∀ (a cur : Bs), 10 ∉ a → linesA cur a = if cur ++ a = [] then [] else [cur ++ a]
  | [], cur, _ => by simp [linesA]
  | b :: a, cur, h => by
    have hb : b ≠ 10 := fun e => h (by simp [e])
    rw [linesA, if_neg hb, linesA_end a (cur ++ [b]) (fun e => h (by simp [e]))]
    simp
def crS (l : Bs) : Bs := Lib.trimSuffix l [13]
def nextL (x : Lx) : Lx := { x with line := x.line + 1 }
def linesK : Lx → List Bs → Except Wr Lx
  | x, [] => .ok x
  | x, l :: r => match takeS (nextL x) (crS l) with
    | .error w => .error w
    | .ok y => linesK y r
def lx0 : Lx := ⟨[], [], false, none, none, false, 0⟩
def lexS (s : Bs) : Except Wr (List Tok) :=
  if 65536 < s.length then .error ⟨2, 0, 0, []⟩ else match linesK lx0 (linesA [] s) with
    | .error w => .error w
    | .ok y => match endS y with
      | .error w => .error w
      | .ok z => .ok z.out
theorem cr_len (l : Bs) : (crS l).length ≤ l.length := Lib.trimSuffix_le l [13]
theorem dir_line {x y : Lx} {l : Bs} (h : dirS x l = .ok y) : y.line = x.line := by
  unfold dirS at h
  split at h
  · cases h
  · unfold endS at h
    split at h
    · cases h
    · rename_i z hz
      split at hz
      · cases hz; cases h; rfl
      · split at hz
        · cases hz
        · cases hz; cases h; rfl
theorem step_line {x y : Lx} {c k : Nat} {b : UInt8} {r : Bs} (h : stepS x c b r = .ok (k, y)) : y.line = x.line := by
  unfold stepS at h
  repeat' split at h
  all_goals first | (cases h; done) | skip
  all_goals (cases h)
  all_goals first | rfl | (unfold waitS; split <;> rfl) | exact settle_line x | exact tok_line x _ _ _
theorem wait_line (x : Lx) (c : Int) : (waitS x c).line = x.line := by unfold waitS; split <;> rfl
theorem text_line : ∀ (k : Nat) (x y : Lx) (c : Nat) (l : Bs), textS k x c l = .ok y → y.line = x.line
  | 0, x, y, c, [], h => by cases h; exact wait_line x _
  | k + 1, x, y, c, [], h => by cases h; exact wait_line x _
  | k + 1, x, y, c, _ :: r, h => text_line k x y (c + 1) r h
  | 0, x, y, c, b :: r, h => by
    rw [textS] at h
    cases hs : stepS x c b r with
    | error w => rw [hs] at h; cases h
    | ok p =>
      rw [hs] at h
      exact (text_line p.1 p.2 y (c + 1) r h).trans (step_line hs)
theorem end_line {x y : Lx} (h : endS x = .ok y) : y.line = x.line := by
  unfold endS at h
  split at h
  · cases h; rfl
  · split at h
    · cases h
    · cases h; rfl
theorem take_line {x y : Lx} {l : Bs} (h : takeS x l = .ok y) : y.line = x.line := by
  unfold takeS at h
  split at h
  · cases h
  · split at h
    · cases h; rfl
    · split at h
      · split at h
        · cases h
        · rename_i z hz; cases h; show z.line = x.line; exact end_line hz
      · split at h
        · exact dir_line h
        · have := text_line _ _ _ _ _ h
          rw [this]
          unfold beginS; split <;> rfl
/-- where a source is cut -/
theorem cut_eq (s : Bs) : (Lib.cut s [10] = (s, [], false) ∧ 10 ∉ s) ∨ (∃ a r, s = a ++ 10 :: r ∧ 10 ∉ a ∧ Lib.cut s [10] = (a, r, true)) := by
  unfold Lib.cut
  rw [Lib.index_one]
  by_cases h : Lib.indexByte s 10 = -1
  · refine .inl ⟨by rw [h]; rfl, ?_⟩
    intro hm
    obtain ⟨j, hj, he⟩ := List.mem_iff_getElem.1 hm
    exact Lib.indexByte_none h j (by rw [List.getElem?_eq_getElem hj, he])
  · have hge := Lib.indexByte_ge s 10
    obtain ⟨i, hi⟩ : ∃ i : Nat, Lib.indexByte s 10 = i := ⟨(Lib.indexByte s 10).toNat, by omega⟩
    obtain ⟨h1, h2⟩ := Lib.indexByte_some hi
    have hlt := (List.getElem?_eq_some_iff.1 h1).1
    have hget := (List.getElem?_eq_some_iff.1 h1).2
    refine .inr ⟨s.take i, s.drop (i + 1), ?_, ?_, ?_⟩
    · have := List.take_append_drop i s
      rw [List.drop_eq_getElem_cons hlt, hget] at this
      exact this.symm
    · intro hm
      obtain ⟨j, hj, he⟩ := List.mem_iff_getElem.1 hm
      rw [List.length_take] at hj
      rw [List.getElem_take] at he
      exact h2 j (by omega) (by rw [List.getElem?_eq_getElem (by omega), he])
    · rw [hi, if_pos (by omega)]
      simp
theorem lex_loop (B : Bs × LxT → Option ((Bs × LxT) ⊕ (LxT ⊕ (List Tok × ErrT)))) (hB : ∀ z2, B z2 = (bif (decide ((0 : Int) < (((List.length z2.1) : Nat) : Int))) then ((Go.Fn.strings_Cut z2.1 ((10 : UInt8) :: ([] : List (UInt8))))).bind fun r3 =>
     ((bif (!r3.2.2) then some ((decide ((r3.2.1 : List (UInt8)) = ([] : List (UInt8)))), (z2.2.1, (z2.2.2.1, (z2.2.2.2.1, (z2.2.2.2.2.1, (z2.2.2.2.2.2.1, (z2.2.2.2.2.2.2.1, ((Go.IntKind.wrap .i64 (z2.2.2.2.2.2.2.2.1 + (1 : Int))), z2.2.2.2.2.2.2.2.2))))))))
         else some (true, (z2.2.1, (z2.2.2.1, (z2.2.2.2.1, (z2.2.2.2.2.1, (z2.2.2.2.2.2.1, (z2.2.2.2.2.2.2.1, ((Go.IntKind.wrap .i64 (z2.2.2.2.2.2.2.2.1 + (1 : Int))), z2.2.2.2.2.2.2.2.2))))))))).bind fun r4 =>
       bif r4.1 then ((Go.Fn.strings_TrimSuffix r3.1 ((13 : UInt8) :: ([] : List (UInt8))))).bind fun r5 =>
       some (r5, r4.2)
       else some (r3.1, r4.2)).bind fun r6 =>
     ((Go.Fn.mark_lexer__take r6.2 r6.1)).bind fun r7 =>
     bif (Option.isSome r7.1) then some (.inr (.inr (([] : List Tok), r7.1)))
     else some (.inl (r3.2.1, r7.2))
     else some (.inr (.inl z2.2)))) : ∀ (m n : Nat) (s : Bs) (x : Lx), s.length ≤ m → s.length ≤ 65536 → x.Ok n → x.line + s.length ≤ 65536 → n + 10 * s.length ≤ 80000000 →
     (∃ w, loopC B (s, x.t) = some (.inr ([], Wr.e w)) ∧ linesK x (linesA [] s) = .error w) ∨
     (∃ y : Lx, loopC B (s, x.t) = some (.inl y.t) ∧ linesK x (linesA [] s) = .ok y ∧ y.Ok (n + 10 * s.length))
  | m, n, [], x, hm, hs, h, hl, hn => by
    refine .inr ⟨x, ?_, rfl, h.mono (by omega)⟩
    rw [loopC_step, hB]
    rfl
  | 0, n, b :: r, x, hm, hs, h, hl, hn => by simp at hm
  | m + 1, n, b :: r0, x, hm, hs, h, hl, hn => by
    have hcond : (0 : Int) < (((b :: r0).length : Nat) : Int) := by simp
    have hne : b :: r0 ≠ [] := by simp
    generalize hse : b :: r0 = s at *
    have hcut : strings_Cut s [10] = some (Lib.cut s [10]) := if_pos (by omega)
    have hxn : (nextL x).Ok n := ⟨h.out, h.opn, h.run, h.bl⟩
    have hw : IntKind.wrap .i64 (((x.line : Nat) : Int) + 1) = ((x.line + 1 : Nat) : Int) := wrapS (by omega)
    have hpos := List.length_pos_iff.2 hne
    have hT : ∀ l : Bs, l.length ≤ 65536 → strings_TrimSuffix l [13] = some (crS l) := fun l hl => if_pos (by omega)
    have e1 : x.t.2.2.2.2.2.2.1 = ((x.line : Nat) : Int) := rfl
    rcases cut_eq s with ⟨hc, h10⟩ | ⟨a, r, hsa, h10, hc⟩
    · have hla : linesA [] s = [s] := by rw [linesA_end s [] h10, if_neg (by simpa using hne)]; rfl
      have hB1 : B (s, x.t) = (mark_lexer__take (nextL x).t (crS s)).bind fun r7 => bif (Option.isSome r7.1) then some (.inr (.inr (([] : List Tok), r7.1))) else some (.inl (([] : Bs), r7.2)) := by
        rw [hB]
        simp only [hcond, decide_true, cond_true, hcut, hc, Option.bind_some, Bool.not_false, hT s hs, e1, hw]
        rfl
      have hk := take_eq hxn (crS s) (Nat.le_trans (cr_len s) hs) (by omega)
      have hcl := cr_len s
      rw [hla, linesK]
      cases ht : takeS (nextL x) (crS s) with
      | error w =>
        rw [ht] at hk
        obtain ⟨t, e⟩ := hk
        refine .inl ⟨w, ?_, rfl⟩
        rw [loopC_step, hB1, e]
        rfl
      | ok y =>
        rw [ht] at hk
        obtain ⟨e, ho⟩ := hk
        refine .inr ⟨y, ?_, rfl, ho.mono (by omega)⟩
        rw [loopC_step, hB1, e]
        simp only [Option.bind_some, Option.isSome_none, cond_false]
        show loopC B ([], y.t) = _
        rw [loopC_step, hB]
        rfl
    · have hla : linesA [] s = a :: linesA [] r := by rw [hsa, linesA_cut a [] r h10]; rfl
      have hln : s.length = a.length + 1 + r.length := by rw [hsa]; simp; omega
      have hB1 : B (s, x.t) = (mark_lexer__take (nextL x).t (crS a)).bind fun r7 => bif (Option.isSome r7.1) then some (.inr (.inr (([] : List Tok), r7.1))) else some (.inl (r, r7.2)) := by
        rw [hB]
        simp only [hcond, decide_true, cond_true, hcut, hc, Option.bind_some, Bool.not_true, cond_false, hT a (by omega), e1, hw]
        rfl
      have hcl := cr_len a
      have hk := take_eq hxn (crS a) (by omega) (by omega)
      rw [hla, linesK]
      cases ht : takeS (nextL x) (crS a) with
      | error w =>
        rw [ht] at hk
        obtain ⟨t, e⟩ := hk
        refine .inl ⟨w, ?_, rfl⟩
        rw [loopC_step, hB1, e]
        rfl
      | ok y =>
        rw [ht] at hk
        obtain ⟨e, ho⟩ := hk
        have hyl := take_line ht
        have hyl : y.line = x.line + 1 := hyl
        have hs1 : loopC B (s, x.t) = loopC B (r, y.t) := by
          rw [loopC_step, hB1, e]
          rfl
        rw [hs1]
        have ih := lex_loop B hB m (n + 8 * (crS a).length + 2) r y (by omega) (by omega) ho (by omega) (by omega)
        rcases ih with ⟨w, q1, q2⟩ | ⟨z, q1, q2, q3⟩
        · exact .inl ⟨w, q1, q2⟩
        · exact .inr ⟨z, q1, q2, q3.mono (by omega)⟩
theorem lx0_ok : lx0.Ok 0 := ⟨Nat.le_refl _, by decide, fun r hr => (by cases hr), fun r hr => by cases hr⟩
def lexR : Except Wr (List Tok) → List Tok × ErrT
  | .ok t => (t, none)
  | .error w => ([], w.e)
theorem lex_eq (s : Bs) : mark_Lex s = some (lexR (lexS s)) := by
  unfold mark_Lex lexS
  by_cases h : 65536 < s.length
  · have h' : (65536 : Int) < ((s.length : Nat) : Int) := by omega
    rw [if_pos h]
    simp only [h', decide_true, cond_true]
    rw [wrong_eq _ _ _ _ (by decide)]
    rfl
  · have h' : ¬ (65536 : Int) < ((s.length : Nat) : Int) := by omega
    rw [if_neg h]
    simp only [h', decide_false, cond_false]
    have hL := lex_loop _ (fun _ => rfl) s.length 0 s lx0 (Nat.le_refl _) (by omega) lx0_ok (by show 0 + s.length ≤ _; omega) (by omega)
    rcases hL with ⟨w, q1, q2⟩ | ⟨y, q1, q2, q3⟩
    · have q1 : loopC _ (s, (([] : List Tok), (([] : List Brc), ((0 : Int), (((0 : Int), (([] : Bs), (([] : Bs), ((0 : Int), ((0 : Int), ()))))), (((0 : Int), ((0 : Int), ())), ((0 : Int), ((0 : Int), ())))))))) = _ := q1
      rw [q1, q2]
      rfl
    · have q1 : loopC _ (s, (([] : List Tok), (([] : List Brc), ((0 : Int), (((0 : Int), (([] : Bs), (([] : Bs), ((0 : Int), ((0 : Int), ()))))), (((0 : Int), ((0 : Int), ())), ((0 : Int), ((0 : Int), ())))))))) = _ := q1
      have hq := end_eq q3 (by omega)
      rw [q1, q2]
      simp only [Option.bind_some, onSum]
      cases hend : endS y with
      | error w =>
        rw [hend] at hq
        obtain ⟨t, ht⟩ := hq
        rw [ht]
        rfl
      | ok z =>
        rw [hend] at hq
        have hq : mark_lexer__end y.t = some (none, z.t) := hq
        rw [hq]
        rfl
end Go.Fn
/- Chapter 4, plainly: where tokens stand. -/
namespace Go.Fn
open Go Go.Lf
def posT (t : Tok) : Int × Int := (t.2.2.2.1, t.2.2.2.2.1)
def runP : Option (Bs × Int × Int) → List (Int × Int)
  | none => []
  | some r => [r.2]
def posL (x : Lx) : List (Int × Int) := x.out.map posT ++ (runP x.run ++ x.bl.toList)
def ltP (p q : Int × Int) : Prop := p.1 < q.1 ∨ (p.1 = q.1 ∧ p.2 < q.2)
theorem ltP.trans {p q r : Int × Int} (h : ltP p q) (h' : ltP q r) : ltP p r := by
  unfold ltP at *
  omega
theorem settle_pos (x : Lx) : (posL (settleS x)).Sublist (posL x) := by
  obtain ⟨out, opn, ins, run, bl, fresh, line⟩ := x
  cases bl with
  | none => exact List.Sublist.refl _
  | some r =>
    cases run with
    | none => simp [posL, settleS, putS, runP]
    | some q => simp [posL, settleS, putS, runP]
theorem settle_bl (x : Lx) : (settleS x).bl = none := by
  unfold settleS
  split
  · assumption
  · rfl
theorem put_pos (x : Lx) (s : Bs) (l c : Int) (h : x.bl = none) : (posL (putS x s l c)).Sublist (posL x ++ [(l, c)]) := by
  obtain ⟨out, opn, ins, run, bl, fresh, line⟩ := x
  cases h
  cases run with
  | none => simp [posL, putS, runP]
  | some q => simp [posL, putS, runP]
theorem flush_pos (x : Lx) : posL (flushS x) = posL x := by
  obtain ⟨out, opn, ins, run, bl, fresh, line⟩ := x
  cases run with
  | none => rfl
  | some q => simp [posL, flushS, runP, posT, runT]
theorem tok_pos (x : Lx) (k : Int) (s : Bs) (c : Int) : (posL (tokS x k s c)).Sublist (posL x ++ [((x.line : Int), c)]) := by
  have h1 : posL (tokS x k s c) = posL (flushS (settleS x)) ++ [((x.line : Int), c)] := by
    have hb : (flushS (settleS x)).bl = none := settle_bl x
    have hr : (flushS (settleS x)).run = none := rfl
    unfold posL tokS
    simp only [hb, hr]
    simp [runP, posT]
  rw [h1, flush_pos]
  exact List.Sublist.append_right (settle_pos x) _
theorem wait_pos (x : Lx) (c : Int) : (posL (waitS x c)).Sublist (posL x ++ [((x.line : Int), c)]) := by
  unfold waitS
  split
  · rename_i h
    simp [posL, h.2]
  · exact List.sublist_append_left _ _
theorem settle_put_pos (x : Lx) (s : Bs) (c : Int) : (posL (putS (settleS x) s (x.line : Int) c)).Sublist (posL x ++ [((x.line : Int), c)]) :=
  (put_pos _ s _ c (settle_bl x)).trans (List.Sublist.append_right (settle_pos x) _)
theorem end_pos {x y : Lx} (h : endS x = .ok y) : (posL y).Sublist (posL x) := by
  unfold endS at h
  split at h
  · cases h; exact List.Sublist.refl _
  · split at h
    · cases h
    · cases h
      have := flush_pos x
      unfold posL at this ⊢
      have hr : (flushS x).run = none := rfl
      rw [hr] at this
      simp only [runP, List.nil_append] at this ⊢
      rw [← this]
      simp [hr, runP]
theorem step_pos {x y : Lx} {c k : Nat} {b : UInt8} {r : Bs} (h : stepS x c b r = .ok (k, y)) : (posL y).Sublist (posL x ++ [((x.line : Int), (c : Int))]) := by
  unfold stepS at h
  repeat' split at h
  all_goals first | (cases h; done) | skip
  all_goals (cases h)
  · exact wait_pos x _
  · exact settle_put_pos x _ _
  · exact tok_pos x _ _ _
  · exact tok_pos x _ _ _
  · exact tok_pos x _ _ _
  · exact settle_put_pos x _ _
theorem pos_next {x y : Lx} {q q' : Int × Int} (hs : (posL y).Sublist (posL x ++ [q])) (hq : ltP q q') (h : (posL x ++ [q]).Pairwise ltP) : (posL y ++ [q']).Pairwise ltP := by
  have h2 : ((posL x ++ [q]) ++ [q']).Pairwise ltP := by
    rw [List.pairwise_append]
    refine ⟨h, List.pairwise_singleton _ _, fun a ha b hb => ?_⟩
    simp only [List.mem_singleton] at hb
    subst hb
    rcases List.mem_append.1 ha with ha | ha
    · rw [List.pairwise_append] at h
      exact (h.2.2 a ha q (by simp)).trans hq
    · simp only [List.mem_singleton] at ha
      subst ha; exact hq
  exact h2.sublist (List.Sublist.append_right hs _)
theorem pos_le {x : Lx} {q q' : Int × Int} (hq : ltP q q' ∨ q = q') (h : (posL x ++ [q]).Pairwise ltP) : (posL x ++ [q']).Pairwise ltP := by
  rcases hq with hq | rfl
  · exact pos_next (List.sublist_append_left _ _) hq h
  · exact h
theorem text_pos : ∀ (k : Nat) (x y : Lx) (c : Nat) (l : Bs), textS k x c l = .ok y → (posL x ++ [((x.line : Int), (c : Int))]).Pairwise ltP →
    (posL y ++ [((x.line : Int), ((c + l.length + 1 : Nat) : Int))]).Pairwise ltP ∧ ∀ p ∈ posL y, p ∈ posL x ∨ (p.1 = (x.line : Int) ∧ (c : Int) ≤ p.2 ∧ p.2 ≤ ((c + l.length : Nat) : Int))
  | 0, x, y, c, [], h, hp => by
    cases h
    refine ⟨pos_next (wait_pos x _) (.inr ⟨rfl, by simp; omega⟩) hp, fun p hp' => ?_⟩
    rcases List.mem_append.1 ((wait_pos x _).subset hp') with h | h
    · exact .inl h
    · simp only [List.mem_singleton] at h
      subst h; exact .inr ⟨rfl, Int.le_refl _, by simp⟩
  | k + 1, x, y, c, [], h, hp => by
    cases h
    refine ⟨pos_next (wait_pos x _) (.inr ⟨rfl, by simp; omega⟩) hp, fun p hp' => ?_⟩
    rcases List.mem_append.1 ((wait_pos x _).subset hp') with h | h
    · exact .inl h
    · simp only [List.mem_singleton] at h
      subst h; exact .inr ⟨rfl, Int.le_refl _, by simp⟩
  | k + 1, x, y, c, b :: r, h, hp => by
    have hq : ltP ((x.line : Int), (c : Int)) ((x.line : Int), ((c + 1 : Nat) : Int)) := .inr ⟨rfl, by simp; omega⟩
    have ih := text_pos k x y (c + 1) r h (pos_le (.inl hq) hp)
    refine ⟨?_, fun p hp' => ?_⟩
    · have := ih.1
      rw [show c + 1 + r.length + 1 = c + (b :: r).length + 1 by simp; omega] at this
      exact this
    · rcases ih.2 p hp' with h | ⟨h1, h2, h3⟩
      · exact .inl h
      · exact .inr ⟨h1, by omega, by simp at h3 ⊢; omega⟩
  | 0, x, y, c, b :: r, h, hp => by
    rw [textS] at h
    cases hs : stepS x c b r with
    | error w => rw [hs] at h; cases h
    | ok p =>
      rw [hs] at h
      obtain ⟨k, z⟩ := p
      have hl := step_line hs
      have hsub := step_pos hs
      have ih := text_pos k z y (c + 1) r h (by rw [hl]; exact pos_next hsub (.inr ⟨rfl, by simp; omega⟩) hp)
      rw [hl] at ih
      refine ⟨?_, fun p hp' => ?_⟩
      · have := ih.1
        rw [show c + 1 + r.length + 1 = c + (b :: r).length + 1 by simp; omega] at this
        exact this
      · rcases ih.2 p hp' with h | ⟨h1, h2, h3⟩
        · rcases List.mem_append.1 (hsub.subset h) with h | h
          · exact .inl h
          · simp only [List.mem_singleton] at h
            subst h; exact .inr ⟨rfl, Int.le_refl _, by simp; omega⟩
        · exact .inr ⟨h1, by omega, by simp at h3 ⊢; omega⟩
theorem begin_pos (x : Lx) : posL (beginS x) = posL x := by unfold beginS; split <;> rfl
theorem begin_line (x : Lx) : (beginS x).line = x.line := by unfold beginS; split <;> rfl
/-- between paragraphs nothing is open -/
def Idle (x : Lx) : Prop := x.ins = false → x.opn = [] ∧ x.run = none ∧ x.bl = none
theorem end_idle {x y : Lx} (hi : Idle x) (h : endS x = .ok y) : y.ins = false ∧ y.opn = [] ∧ y.run = none ∧ y.bl = none := by
  unfold endS at h
  split at h
  · rename_i hf; cases h; exact ⟨hf, hi hf⟩
  · split at h
    · cases h
    · rename_i hn
      rw [List.getLast?_eq_none_iff] at hn
      cases h
      exact ⟨rfl, hn, rfl, rfl⟩
theorem wait_ins (x : Lx) (c : Int) : (waitS x c).ins = x.ins := by unfold waitS; split <;> rfl
theorem step_ins {x y : Lx} {c k : Nat} {b : UInt8} {r : Bs} (h : stepS x c b r = .ok (k, y)) : y.ins = x.ins := by
  unfold stepS at h
  repeat' split at h
  all_goals first | (cases h; done) | skip
  all_goals (cases h)
  all_goals first | rfl | exact wait_ins x _ | exact settle_ins x
theorem text_ins : ∀ (k : Nat) (x y : Lx) (c : Nat) (l : Bs), textS k x c l = .ok y → y.ins = x.ins
  | 0, x, y, c, [], h => by cases h; exact wait_ins x _
  | k + 1, x, y, c, [], h => by cases h; exact wait_ins x _
  | k + 1, x, y, c, _ :: r, h => text_ins k x y (c + 1) r h
  | 0, x, y, c, b :: r, h => by
    rw [textS] at h
    cases hs : stepS x c b r with
    | error w => rw [hs] at h; cases h
    | ok p =>
      rw [hs] at h
      exact (text_ins p.1 p.2 y (c + 1) r h).trans (step_ins hs)
theorem begin_ins (x : Lx) : (beginS x).ins = true := by
  unfold beginS
  split
  · rfl
  · rename_i h; simpa using h
/-- the ways of a line -/
theorem take_cases {x y : Lx} {l : Bs} (h : takeS x l = .ok y) : chkS x.line l = none ∧
    ((Lib.hasPrefix l [35] = true ∧ y = x) ∨
     (∃ z t, Lib.hasPrefix l [35] = false ∧ endS x = .ok z ∧ y = { z with out := z.out ++ [t] } ∧ posT t = ((z.line : Int), 1) ∧
       ((Lib.trimS l [32, 9] = [] ∧ t = (2, [], [], (z.line : Int), 1, ())) ∨ (Lib.trimS l [32, 9] ≠ [] ∧ l.head? = some 46 ∧ dirS x l = .ok y ∧ t = (1, (l.drop 1).take (lets (l.drop 1)), Lib.trimS (l.drop (1 + lets (l.drop 1))) [32, 9], (z.line : Int), 1, ())))) ∨
     (Lib.hasPrefix l [35] = false ∧ Lib.trimS l [32, 9] ≠ [] ∧ l.head? ≠ some 46 ∧ textS 0 (beginS x) 1 l = .ok y)) := by
  unfold takeS at h
  split at h
  · cases h
  · rename_i hc
    refine ⟨hc, ?_⟩
    split at h
    · rename_i hp; cases h; exact .inl ⟨hp, rfl⟩
    · rename_i hp
      have hp : Lib.hasPrefix l [35] = false := by simpa using hp
      split at h
      · rename_i ht
        split at h
        · cases h
        · rename_i z hz
          cases h
          exact .inr (.inl ⟨z, _, hp, hz, rfl, rfl, .inl ⟨ht, rfl⟩⟩)
      · rename_i ht
        split at h
        · rename_i h46
          have hd := h
          unfold dirS at h
          split at h
          · cases h
          · split at h
            · cases h
            · rename_i z hz
              cases h
              exact .inr (.inl ⟨z, _, hp, hz, rfl, rfl, .inr ⟨ht, h46, hd, rfl⟩⟩)
        · rename_i h46
          exact .inr (.inr ⟨hp, ht, h46, h⟩)
theorem take_idle {x y : Lx} {l : Bs} (hi : Idle x) (h : takeS x l = .ok y) : Idle y := by
  obtain ⟨_, h⟩ := take_cases h
  rcases h with ⟨_, rfl⟩ | ⟨z, t, _, hz, rfl, _⟩ | ⟨_, _, _, ht⟩
  · exact hi
  · exact fun _ => (end_idle hi hz).2
  · intro hf
    have := text_ins _ _ _ _ _ ht
    rw [hf, begin_ins] at this
    cases this
theorem take_pos {x y : Lx} {l : Bs} (hi : Idle x) (h : takeS x l = .ok y) (hp : (posL x ++ [((x.line : Int), (1 : Int))]).Pairwise ltP) :
    (posL y ++ [(((x.line + 1 : Nat) : Int), (1 : Int))]).Pairwise ltP ∧ ∀ p ∈ posL y, p ∈ posL x ∨ (p.1 = (x.line : Int) ∧ 1 ≤ p.2 ∧ p.2 ≤ ((l.length + 1 : Nat) : Int)) := by
  obtain ⟨_, h⟩ := take_cases h
  rcases h with ⟨_, rfl⟩ | ⟨z, t, _, hz, rfl, ht, _⟩ | ⟨_, _, _, ht⟩
  · exact ⟨pos_le (.inl (.inl (by simp; omega))) hp, fun p hp => .inl hp⟩
  · have hl := end_line hz
    obtain ⟨_, _, e1, e2⟩ := end_idle hi hz
    have e : posL { z with out := z.out ++ [t] } = posL z ++ [((x.line : Int), (1 : Int))] := by
      unfold posL
      simp only [e1, e2, runP]
      simp [ht, hl]
    have hsub : (posL { z with out := z.out ++ [t] }).Sublist (posL x ++ [((x.line : Int), (1 : Int))]) := by
      rw [e]; exact List.Sublist.append_right (end_pos hz) _
    refine ⟨pos_next hsub (.inl (by simp; omega)) hp, fun p hp' => ?_⟩
    rcases List.mem_append.1 (hsub.subset hp') with h | h
    · exact .inl h
    · simp only [List.mem_singleton] at h
      subst h; exact .inr ⟨rfl, Int.le_refl _, by simp; omega⟩
  · have hb := begin_pos x
    have hl := begin_line x
    have := text_pos 0 (beginS x) y 1 l ht (by rw [hb, hl]; exact hp)
    rw [hb, hl] at this
    refine ⟨pos_le (.inl (.inl (by simp; omega))) this.1, fun p hp' => ?_⟩
    rcases this.2 p hp' with h | ⟨h1, h2, h3⟩
    · exact .inl h
    · exact .inr ⟨h1, by simpa using h2, by omega⟩
theorem lines_pos : ∀ (L : List Bs) (x y : Lx), Idle x → linesK x L = .ok y → (posL x ++ [(((x.line + 1 : Nat) : Int), (1 : Int))]).Pairwise ltP →
    Idle y ∧ y.line = x.line + L.length ∧ (posL y ++ [(((y.line + 1 : Nat) : Int), (1 : Int))]).Pairwise ltP ∧ ∀ p ∈ posL y, p ∈ posL x ∨ ∃ (j : Nat) (l : Bs), L[j]? = some l ∧ p.1 = ((x.line + j + 1 : Nat) : Int) ∧ 1 ≤ p.2 ∧ p.2 ≤ (((crS l).length + 1 : Nat) : Int)
  | [], x, y, hi, h, hp => by cases h; exact ⟨hi, by simp, hp, fun p hp => .inl hp⟩
  | l :: L, x, y, hi, h, hp => by
    rw [linesK] at h
    cases ht : takeS (nextL x) (crS l) with
    | error w => rw [ht] at h; cases h
    | ok z =>
      rw [ht] at h
      have hl : z.line = x.line + 1 := take_line ht
      have hin : Idle (nextL x) := hi
      obtain ⟨t1, t2⟩ := take_pos hin ht hp
      have t1 : (posL z ++ [(((x.line + 1 + 1 : Nat) : Int), (1 : Int))]).Pairwise ltP := t1
      obtain ⟨i1, i2, i3, i4⟩ := lines_pos L z y (take_idle hin ht) h (by rw [hl]; exact t1)
      refine ⟨i1, by simp; omega, i3, fun p hp' => ?_⟩
      rcases i4 p hp' with h | ⟨j, m, h1, h2, h3⟩
      · rcases t2 p h with h | ⟨h1, h2, h3⟩
        · exact .inl h
        · exact .inr ⟨0, l, rfl, h1, h2, h3⟩
      · exact .inr ⟨j + 1, m, h1, by rw [h2, hl]; congr 1; omega, h3⟩
/-- where the tokens of a source stand -/
theorem lex_pos {s : Bs} {t : List Tok} (h : lexS s = .ok t) : (t.map posT).Pairwise ltP ∧ ∀ p ∈ t.map posT, ∃ (j : Nat) (l : Bs), ((linesA [] s).map crS)[j]? = some l ∧ p.1 = ((j + 1 : Nat) : Int) ∧ 1 ≤ p.2 ∧ p.2 ≤ ((l.length + 1 : Nat) : Int) := by
  unfold lexS at h
  split at h
  · cases h
  · split at h
    · cases h
    · rename_i y hy
      split at h
      · cases h
      · rename_i z hz
        cases h
        have h0 : Idle lx0 := fun _ => ⟨rfl, rfl, rfl⟩
        obtain ⟨i1, i2, i3, i4⟩ := lines_pos _ _ _ h0 hy (by simp [posL, lx0, runP])
        obtain ⟨_, _, e1, e2⟩ := end_idle i1 hz
        have e : posL z = z.out.map posT := by unfold posL; rw [e1, e2]; simp [runP]
        have hs := end_pos hz
        rw [e] at hs
        rw [List.pairwise_append] at i3
        refine ⟨i3.1.sublist hs, fun p hp => ?_⟩
        rcases i4 p (hs.subset hp) with h | ⟨j, l, h1, h2, h3, h4⟩
        · simp [posL, lx0, runP] at h
        · exact ⟨j, crS l, by rw [List.getElem?_map, h1]; rfl, by rw [h2]; simp [lx0], h3, h4⟩
end Go.Fn
/- Chapter 4, plainly: braces and blanks. -/
namespace Go.Fn
open Go Go.Lf
def dep (t : List Tok) : Int := t.foldl (fun d k => if k.1 = 3 then d + 1 else if k.1 = 5 then d - 1 else d) 0
theorem dep_snoc (t : List Tok) (k : Tok) : dep (t ++ [k]) = if k.1 = 3 then dep t + 1 else if k.1 = 5 then dep t - 1 else dep t := by
  unfold dep
  rw [List.foldl_append]
  rfl
def atS (t : List Tok) : Bool := match t.getLast? with
  | none => true
  | some k => decide (k.1 = 2) || decide (k.1 = 1)
/-- no two blanks in a row -/
def nd (l : Bs) : Prop := ∀ a b, l ≠ a ++ [32, 32] ++ b
theorem nd_snoc {l : Bs} {d : UInt8} (h : nd l) (hd : l.getLast? ≠ some 32 ∨ d ≠ 32) : nd (l ++ [d]) := by
  intro a b e
  rcases List.eq_nil_or_concat b with rfl | ⟨b', c, rfl⟩
  · rw [List.append_nil] at e
    have e : l ++ [d] = (a ++ [32]) ++ [32] := by rw [e]; simp
    obtain ⟨e1, e2⟩ := List.append_inj' e rfl
    cases e2
    rcases hd with hd | hd
    · exact hd (by rw [e1]; simp)
    · exact hd rfl
  · rw [List.concat_eq_append, ← List.append_assoc] at e
    exact h a b' (List.append_inj' e rfl).1
theorem nd_nil : nd [] := fun a b e => by simp at e
theorem nd_contains {l : Bs} (h : nd l) : Lib.contains l [32, 32] = false := by
  unfold Lib.contains
  rcases Lib.index_spec l [32, 32] with ⟨h1, _⟩ | ⟨i, h1, h2, h3, _⟩
  · rw [h1]; rfl
  · exfalso
    unfold Lib.occAt at h3
    rw [List.isPrefixOf_iff_prefix] at h3
    obtain ⟨b, hb⟩ := h3
    refine h (l.take i) b ?_
    rw [List.append_assoc, hb, List.take_append_drop]
/-- a token behind others -/
def CtB (pre : List Tok) (k : Tok) : Prop :=
  ((k.1 = 1 ∨ k.1 = 2) ∧ dep pre = 0) ∨ (k.1 = 3 ∧ 0 ≤ dep pre ∧ dep pre ≤ 15) ∨ (k.1 = 4 ∧ 1 ≤ dep pre ∧ dep pre ≤ 16) ∨ (k.1 = 5 ∧ 1 ≤ dep pre ∧ dep pre ≤ 16) ∨
  (k.1 = 6 ∧ 0 ≤ dep pre ∧ dep pre ≤ 16 ∧ k.2.2.1 ≠ [] ∧ nd k.2.2.1 ∧ (atS pre = true → k.2.2.1.head? ≠ some 32) ∧ ∀ j, pre.getLast? = some j → j.1 ≠ 6)
def NxB (k m : Tok) : Prop := k.1 = 6 → m.1 = 1 ∨ m.1 = 2 → k.2.2.1.getLast? ≠ some 32
def GdB (t : List Tok) : Prop := ∀ pre k suf, t = pre ++ k :: suf → CtB pre k ∧ ∀ m, suf.head? = some m → NxB k m
theorem gd_snoc {t : List Tok} {k : Tok} (h : GdB t) (hk : CtB t k) (hn : ∀ j, t.getLast? = some j → NxB j k) : GdB (t ++ [k]) := by
  intro pre j suf e
  rcases List.eq_nil_or_concat suf with rfl | ⟨suf', c, rfl⟩
  · obtain ⟨e1, e2⟩ := List.append_inj' e rfl
    cases e2
    subst e1
    exact ⟨hk, fun m hm => by cases hm⟩
  · rw [List.concat_eq_append, ← List.cons_append, ← List.append_assoc] at e
    obtain ⟨e1, e2⟩ := List.append_inj' e rfl
    cases e2
    obtain ⟨c1, c2⟩ := h pre j suf' e1
    refine ⟨c1, fun m hm => ?_⟩
    cases suf' with
    | nil =>
      simp at hm
      subst hm
      exact hn j (by rw [e1]; simp)
    | cons a b =>
      simp at hm
      exact c2 m (by simp [hm])
structure Br (x : Lx) : Prop where
  g : GdB x.out
  d : dep x.out = (x.opn.length : Int)
  o : x.opn.length ≤ 16
  l : ∀ j, x.out.getLast? = some j → j.1 ≠ 6
  i : x.ins = false → x.opn = [] ∧ x.run = none ∧ x.bl = none
  r : ∀ r, x.run = some r → r.1 ≠ [] ∧ nd r.1 ∧ r.1.getLast? ≠ some 32 ∧ (atS x.out = true → r.1.head? ≠ some 32)
  s : x.run = none → atS x.out = true → x.bl = none ∧ (x.ins = true → x.fresh = true)
theorem br_wait {x : Lx} (h : Br x) (hi : x.ins = true) (c : Int) : Br (waitS x c) := by
  unfold waitS
  split
  · rename_i hf
    refine ⟨h.g, h.d, h.o, h.l, fun e => ?_, h.r, fun e1 e2 => ?_⟩
    · have e : x.ins = false := e
      rw [hi] at e; cases e
    · have := (h.s e1 e2).2 hi
      rw [hf.1] at this; cases this
  · exact h
/-- the run once the blank that waits is put -/
theorem settle_run {x : Lx} (h : Br x) : ∀ r, (settleS x).run = some r → r.1 ≠ [] ∧ nd r.1 ∧ (atS x.out = true → r.1.head? ≠ some 32) := by
  obtain ⟨out, opn, ins, run, bl, fresh, line⟩ := x
  intro r hr
  cases bl with
  | none =>
    have := h.r r hr
    exact ⟨this.1, this.2.1, this.2.2.2⟩
  | some q =>
    cases run with
    | none =>
      have hr : some (([32] : Bs), q.1, q.2) = some r := hr
      cases hr
      refine ⟨by simp, nd_snoc nd_nil (.inl (by simp)), fun e => ?_⟩
      have := (h.s rfl e).1
      cases this
    | some p =>
      have hr : some (p.1 ++ [32], p.2) = some r := hr
      cases hr
      obtain ⟨h1, h2, h3, h4⟩ := h.r p rfl
      refine ⟨by simp, nd_snoc h2 (.inl h3), fun e => ?_⟩
      have := h4 e
      cases hp : p.1 with
      | nil => exact absurd hp h1
      | cons a b => rw [hp] at this; simpa using this
theorem settle_out (x : Lx) : (settleS x).out = x.out := by unfold settleS; split <;> rfl
theorem br_put {x : Lx} (h : Br x) (hi : x.ins = true) (d : UInt8) (hd : d ≠ 32) (l c : Int) : Br (putS (settleS x) [d] l c) := by
  have hr := settle_run h
  have ho := settle_out x
  have hop := settle_opn x
  have hin := settle_ins x
  refine ⟨by show GdB (settleS x).out; rw [ho]; exact h.g, by show dep (settleS x).out = ((settleS x).opn.length : Int); rw [ho, hop]; exact h.d, by show (settleS x).opn.length ≤ 16; rw [hop]; exact h.o, by show ∀ j, (settleS x).out.getLast? = some j → j.1 ≠ 6; rw [ho]; exact h.l, ?_, ?_, ?_⟩
  · intro e
    have e : (settleS x).ins = false := e
    rw [hin, hi] at e; cases e
  · intro r e
    show r.1 ≠ [] ∧ nd r.1 ∧ r.1.getLast? ≠ some 32 ∧ (atS (settleS x).out = true → r.1.head? ≠ some 32)
    rw [ho]
    cases hs : (settleS x).run with
    | none =>
      unfold putS at e
      rw [hs] at e
      cases e
      exact ⟨by simp, nd_snoc nd_nil (.inl (by simp)), by simpa using hd, fun _ => by simpa using hd⟩
    | some p =>
      unfold putS at e
      rw [hs] at e
      cases e
      obtain ⟨h1, h2, h3⟩ := hr p hs
      refine ⟨by simp, nd_snoc h2 (.inr hd), by simpa using hd, fun e => ?_⟩
      have := h3 e
      cases hp : p.1 with
      | nil => exact absurd hp h1
      | cons a b =>
        show (p.1 ++ [d]).head? ≠ some 32
        rw [hp] at this ⊢
        simpa using this
  · intro e
    unfold putS at e
    cases e
/-- the run is told -/
theorem br_flush {x : Lx} (hg : GdB x.out) (hl : ∀ j, x.out.getLast? = some j → j.1 ≠ 6) (h0 : 0 ≤ dep x.out) (h16 : dep x.out ≤ 16) (hr : ∀ r, x.run = some r → r.1 ≠ [] ∧ nd r.1 ∧ (atS x.out = true → r.1.head? ≠ some 32)) :
    GdB (flushS x).out ∧ dep (flushS x).out = dep x.out ∧ ∀ j, (flushS x).out.getLast? = some j → (x.run = none ∧ j.1 ≠ 6) ∨ ∃ r, x.run = some r ∧ j = runT (some r) := by
  cases hx : x.run with
  | none =>
    have e : (flushS x).out = x.out := by unfold flushS; rw [hx]
    rw [e]
    exact ⟨hg, rfl, fun j hj => .inl ⟨rfl, hl j hj⟩⟩
  | some r =>
    have e : (flushS x).out = x.out ++ [runT (some r)] := by unfold flushS; rw [hx]
    obtain ⟨h1, h2, h3⟩ := hr r hx
    rw [e]
    refine ⟨gd_snoc hg (.inr (.inr (.inr (.inr ⟨rfl, h0, h16, h1, h2, h3, hl⟩)))) (fun j hj h6 => absurd h6 (hl j hj)), ?_, fun j hj => .inr ⟨r, rfl, ?_⟩⟩
    · rw [dep_snoc]; rfl
    · simp at hj; exact hj.symm
def CtB' (k d : Int) : Prop := if k = 3 then 0 ≤ d ∧ d ≤ 15 else 1 ≤ d ∧ d ≤ 16
theorem br_tok {x : Lx} (h : Br x) (k : Int) (n : Bs) (c : Int) (hk : k = 3 ∨ k = 4 ∨ k = 5) (hc : CtB' k (dep x.out)) :
    GdB (tokS x k n c).out ∧ (tokS x k n c).out.getLast? = some (k, n, [], (x.line : Int), c, ()) ∧ dep (tokS x k n c).out = (if k = 3 then dep x.out + 1 else if k = 5 then dep x.out - 1 else dep x.out) := by
  have hd0 : 0 ≤ dep x.out := by rw [h.d]; omega
  have hd16 : dep x.out ≤ 16 := by have := h.o; rw [h.d]; omega
  have ho := settle_out x
  obtain ⟨f1, f2, f3⟩ := br_flush (x := settleS x) (by rw [ho]; exact h.g) (by rw [ho]; exact h.l) (by rw [ho]; exact hd0) (by rw [ho]; exact hd16) (by rw [ho]; exact settle_run h)
  rw [ho] at f2
  have e : (tokS x k n c).out = (flushS (settleS x)).out ++ [(k, n, [], (x.line : Int), c, ())] := rfl
  rw [e]
  refine ⟨gd_snoc f1 ?_ ?_, by simp, by rw [dep_snoc, f2]⟩
  · unfold CtB
    rw [f2]
    rcases hk with rfl | rfl | rfl
    · exact .inr (.inl ⟨rfl, by simpa [CtB'] using hc⟩)
    · exact .inr (.inr (.inl ⟨rfl, by simpa [CtB'] using hc⟩))
    · exact .inr (.inr (.inr (.inl ⟨rfl, by simpa [CtB'] using hc⟩)))
  · intro j _ _ hq
    have hq : k = 1 ∨ k = 2 := hq
    omega
theorem at_tok {t : List Tok} {j : Tok} (h : t.getLast? = some j) (hj : j.1 = 3 ∨ j.1 = 4 ∨ j.1 = 5) : atS t = false := by
  unfold atS
  rw [h]
  have h1 : ¬ j.1 = 2 := by omega
  have h2 : ¬ j.1 = 1 := by omega
  simp [h1, h2]
theorem br_step {x y : Lx} {c k : Nat} {b : UInt8} {r : Bs} (h : Br x) (hi : x.ins = true) (hs : stepS x c b r = .ok (k, y)) : Br y := by
  have hd := h.d
  have ho := h.o
  have key : ∀ (k : Int) (n : Bs) (o : List Brc) (f : Bool), (k = 3 ∧ o.length = x.opn.length + 1 ∧ x.opn.length ≤ 15) ∨ (k = 4 ∧ o = x.opn ∧ 1 ≤ x.opn.length) ∨ (k = 5 ∧ o.length + 1 = x.opn.length) → Br { tokS x k n c with opn := o, fresh := f } := by
    intro k n o f hk
    have hk3 : k = 3 ∨ k = 4 ∨ k = 5 := by rcases hk with h | h | h <;> simp [h.1]
    obtain ⟨t1, t2, t3⟩ := br_tok h k n c hk3 (by
      rcases hk with h | h | h
      · rw [h.1]; simp [CtB']; omega
      · rw [h.1]; simp [CtB']; omega
      · rw [h.1]; simp [CtB']; omega)
    have ha := at_tok t2 hk3
    refine ⟨t1, ?_, ?_, ?_, ?_, ?_, ?_⟩
    · show dep (tokS x k n c).out = (o.length : Int)
      rw [t3]
      rcases hk with h | h | h
      · rw [h.1]; simp; omega
      · rw [h.1, h.2.1]; simp; omega
      · rw [h.1]; simp; omega
    · show o.length ≤ 16
      rcases hk with h | h | h
      · omega
      · rw [h.2.1]; omega
      · omega
    · intro j hj
      have hj : (tokS x k n c).out.getLast? = some j := hj
      rw [t2] at hj; cases hj
      show k ≠ 6
      omega
    · intro e
      have e : (settleS x).ins = false := e
      rw [settle_ins, hi] at e; cases e
    · intro r e; cases e
    · intro _ e
      have e : atS (tokS x k n c).out = true := e
      rw [ha] at e; cases e
  unfold stepS at hs
  repeat' split at hs
  all_goals first | (cases hs; done) | skip
  · cases hs; exact br_wait h hi _
  · rename_i h1 _ d _ hsp
    cases hs
    exact br_put h hi d (fun e => by subst e; revert hsp; decide) _ _
  · rename_i h16
    cases hs
    exact key 3 _ _ _ (.inl ⟨rfl, by simp, by omega⟩)
  · rename_i hne
    cases hs
    have := List.length_pos_iff.2 hne
    exact key 5 [] _ _ (.inr (.inr ⟨rfl, by simp; omega⟩))
  · rename_i hne
    cases hs
    have := List.length_pos_iff.2 hne.2
    have e : tokS x 4 [] c = { tokS x 4 [] c with opn := x.opn, fresh := (tokS x 4 [] c).fresh } := by rw [← tok_opn x 4 [] c]
    rw [e]
    exact key 4 [] _ _ (.inr (.inl ⟨rfl, rfl, by omega⟩))
  · rename_i hb _ _ _ _
    cases hs
    refine br_put h hi b (fun e => hb ?_) _ _
    subst e; rfl
theorem br_text : ∀ (k : Nat) (x y : Lx) (c : Nat) (l : Bs), Br x → x.ins = true → textS k x c l = .ok y → Br y
  | 0, x, y, c, [], h, hi, ht => by cases ht; exact br_wait h hi _
  | k + 1, x, y, c, [], h, hi, ht => by cases ht; exact br_wait h hi _
  | k + 1, x, y, c, _ :: r, h, hi, ht => br_text k x y (c + 1) r h hi ht
  | 0, x, y, c, b :: r, h, hi, ht => by
    rw [textS] at ht
    cases hs : stepS x c b r with
    | error w => rw [hs] at ht; cases ht
    | ok p =>
      rw [hs] at ht
      exact br_text p.1 p.2 y (c + 1) r (br_step h hi hs) ((step_ins hs).trans hi) ht
/-- behind a paragraph's end -/
theorem br_end {x y : Lx} (h : Br x) (he : endS x = .ok y) : GdB y.out ∧ dep y.out = 0 ∧ y.ins = false ∧ y.opn = [] ∧ y.run = none ∧ y.bl = none ∧ ∀ j, y.out.getLast? = some j → j.1 = 6 → j.2.2.1.getLast? ≠ some 32 := by
  obtain ⟨e1, e2, e3, e4⟩ := end_idle h.i he
  have hd0 : 0 ≤ dep x.out := by rw [h.d]; omega
  have hd16 : dep x.out ≤ 16 := by have := h.o; rw [h.d]; omega
  have fl := br_flush h.g h.l hd0 hd16 (fun r hr => ⟨(h.r r hr).1, (h.r r hr).2.1, (h.r r hr).2.2.2⟩)
  unfold endS at he
  split at he
  · rename_i hf
    cases he
    exact ⟨h.g, by rw [h.d, e2]; rfl, e1, e2, e3, e4, fun j hj h6 => absurd h6 (h.l j hj)⟩
  · split at he
    · cases he
    · cases he
      refine ⟨fl.1, ?_, e1, e2, e3, e4, fun j hj h6 => ?_⟩
      · have e2 : x.opn = [] := e2
        show dep (flushS x).out = 0
        rw [fl.2.1, h.d, e2]; rfl
      · rcases fl.2.2 j hj with q | ⟨r, q, rfl⟩
        · exact absurd h6 q.2
        · exact (h.r r q).2.2.1
theorem br_begin {x : Lx} (h : Br x) : Br (beginS x) := by
  unfold beginS
  split
  · rename_i hf
    obtain ⟨i1, i2, i3⟩ := h.i hf
    exact ⟨h.g, h.d, h.o, h.l, fun e => (by cases e), h.r, fun _ _ => ⟨i3, fun _ => rfl⟩⟩
  · exact h
theorem br_take {x y : Lx} {l : Bs} (h : Br x) (ht : takeS x l = .ok y) : Br y := by
  obtain ⟨_, hc⟩ := take_cases ht
  rcases hc with ⟨_, rfl⟩ | ⟨z, t, _, hz, rfl, _, hk⟩ | ⟨_, _, _, ht⟩
  · exact h
  · obtain ⟨e1, e2, e3, e4, e5, e6, e7⟩ := br_end h hz
    have hk : t.1 = 1 ∨ t.1 = 2 := by rcases hk with ⟨_, rfl⟩ | ⟨_, _, _, rfl⟩ <;> simp
    refine ⟨gd_snoc e1 (.inl ⟨hk, e2⟩) (fun j hj h6 _ => e7 j hj h6), ?_, ?_, ?_, fun _ => ⟨e4, e5, e6⟩, ?_, fun _ _ => ⟨e6, fun e => ?_⟩⟩
    · show dep (z.out ++ [t]) = (z.opn.length : Int)
      rw [dep_snoc, e4, if_neg (by omega), if_neg (by omega), e2]; rfl
    · show z.opn.length ≤ 16
      rw [e4]; decide
    · intro j hj
      have hj : (z.out ++ [t]).getLast? = some j := hj
      simp at hj
      subst hj; omega
    · intro r hr
      have hr : z.run = some r := hr
      rw [e5] at hr; cases hr
    · have e : z.ins = true := e
      rw [e3] at e; cases e
  · exact br_text 0 _ y 1 l (br_begin h) (begin_ins x) ht
theorem br_lines : ∀ (L : List Bs) (x y : Lx), Br x → linesK x L = .ok y → Br y
  | [], x, y, h, hk => by cases hk; exact h
  | l :: L, x, y, h, hk => by
    rw [linesK] at hk
    cases ht : takeS (nextL x) (crS l) with
    | error w => rw [ht] at hk; cases hk
    | ok z =>
      rw [ht] at hk
      have hn : Br (nextL x) := ⟨h.g, h.d, h.o, h.l, h.i, h.r, h.s⟩
      exact br_lines L z y (br_take hn ht) hk
theorem lex_br {s : Bs} {t : List Tok} (h : lexS s = .ok t) : GdB t ∧ dep t = 0 ∧ ∀ j, t.getLast? = some j → j.1 = 6 → j.2.2.1.getLast? ≠ some 32 := by
  unfold lexS at h
  split at h
  · cases h
  · split at h
    · cases h
    · rename_i y hy
      split at h
      · cases h
      · rename_i z hz
        cases h
        have h0 : Br lx0 := ⟨fun pre k suf e => by simp [lx0] at e, rfl, by decide, fun j hj => (by simp [lx0] at hj), fun _ => ⟨rfl, rfl, rfl⟩, fun r hr => (by simp [lx0] at hr), fun _ _ => ⟨rfl, fun e => by simp [lx0] at e⟩⟩
        obtain ⟨e1, e2, _, _, _, _, e7⟩ := br_end (br_lines _ _ _ h0 hy) hz
        exact ⟨e1, e2, e7⟩
end Go.Fn
/- Chapter 4, plainly: a source that stands some lines on. -/
namespace Go.Fn
open Go Go.Lf
def mapT (g : Int → Int) (t : Tok) : Tok := (t.1, t.2.1, t.2.2.1, g t.2.2.2.1, t.2.2.2.2)
/-- the same, with other lines, behind other tokens -/
def shF (g : Int → Int) (pre : List Tok) (d : Nat) (x : Lx) : Lx :=
  ⟨pre ++ x.out.map (mapT g), x.opn.map fun b => (b.1, g b.2.1, b.2.2), x.ins, x.run.map fun r => (r.1, g r.2.1, r.2.2), x.bl.map fun r => (g r.1, r.2), x.fresh, x.line + d⟩
section
variable {g : Int → Int} {pre : List Tok} {d : Nat}
theorem sh_put (x : Lx) (s : Bs) (l c : Int) : putS (shF g pre d x) s (g l) c = shF g pre d (putS x s l c) := by
  obtain ⟨out, opn, ins, run, bl, fresh, line⟩ := x
  cases run <;> simp [putS, shF]
theorem sh_settle (x : Lx) : settleS (shF g pre d x) = shF g pre d (settleS x) := by
  obtain ⟨out, opn, ins, run, bl, fresh, line⟩ := x
  cases bl <;> cases run <;> simp [settleS, putS, shF]
theorem sh_flush (x : Lx) : flushS (shF g pre d x) = shF g pre d (flushS x) := by
  obtain ⟨out, opn, ins, run, bl, fresh, line⟩ := x
  cases run <;> simp [flushS, shF, mapT, runT]
theorem sh_wait (x : Lx) (c : Int) (hl : g x.line = ((x.line + d : Nat) : Int)) : waitS (shF g pre d x) c = shF g pre d (waitS x c) := by
  obtain ⟨out, opn, ins, run, bl, fresh, line⟩ := x
  have hl : g (line : Int) = ((line + d : Nat) : Int) := hl
  cases bl <;> cases fresh <;> simp [waitS, shF, hl]
theorem sh_tok (x : Lx) (k : Int) (n : Bs) (c : Int) (hl : g x.line = ((x.line + d : Nat) : Int)) : tokS (shF g pre d x) k n c = shF g pre d (tokS x k n c) := by
  unfold tokS
  rw [sh_settle, sh_flush]
  have e : ((shF g pre d x).line : Int) = g x.line := by rw [hl]; rfl
  rw [e]
  unfold shF
  simp [mapT]
theorem sh_opn_nil (x : Lx) : (shF g pre d x).opn = [] ↔ x.opn = [] := by unfold shF; simp
theorem sh_opn_len (x : Lx) : (shF g pre d x).opn.length = x.opn.length := by unfold shF; simp
theorem sh_step {x y : Lx} {c k : Nat} {b : UInt8} {r : Bs} (hl : g x.line = ((x.line + d : Nat) : Int)) (h : stepS x c b r = .ok (k, y)) : stepS (shF g pre d x) c b r = .ok (k, shF g pre d y) := by
  have e : ((shF g pre d x).line : Int) = g x.line := by rw [hl]; rfl
  unfold stepS at h ⊢
  rw [e, sh_opn_len]
  simp only [ne_eq, sh_opn_nil]
  simp only [sh_wait _ _ hl, sh_settle, sh_put, sh_tok _ _ _ _ hl]
  split at h
  · cases h
    rename_i hb
    rw [if_pos hb]
  · rename_i hb
    rw [if_neg hb]
    split at h
    · rename_i h92
      rw [if_pos h92]
      cases r with
      | nil => cases h
      | cons a r =>
        simp only at h ⊢
        split at h
        · rename_i hs
          cases h
          rw [if_pos hs]
        · cases h
    · rename_i h92
      rw [if_neg h92]
      split at h
      · rename_i h123
        rw [if_pos h123]
        split at h
        · cases h
        · rename_i he
          rw [if_neg he]
          split at h
          · cases h
          · rename_i h16
            rw [if_neg h16]
            cases h
            simp [shF]
      · rename_i h123
        rw [if_neg h123]
        split at h
        · rename_i h125
          rw [if_pos h125]
          split at h
          · cases h
          · rename_i ho
            rw [if_neg ho]
            cases h
            simp [shF]
        · rename_i h125
          rw [if_neg h125]
          split at h
          · rename_i ho
            rw [if_pos ho]
            cases h
            rfl
          · rename_i ho
            rw [if_neg ho]
            cases h
            rfl
theorem sh_text : ∀ (k : Nat) (x y : Lx) (c : Nat) (l : Bs), g x.line = ((x.line + d : Nat) : Int) → textS k x c l = .ok y → textS k (shF g pre d x) c l = .ok (shF g pre d y)
  | 0, x, y, c, [], hl, h => by cases h; rw [textS, sh_wait _ _ hl]
  | k + 1, x, y, c, [], hl, h => by cases h; rw [textS, sh_wait _ _ hl]
  | k + 1, x, y, c, _ :: r, hl, h => sh_text k x y (c + 1) r hl h
  | 0, x, y, c, b :: r, hl, h => by
    rw [textS] at h ⊢
    cases hs : stepS x c b r with
    | error w => rw [hs] at h; cases h
    | ok p =>
      rw [hs] at h
      obtain ⟨k, z⟩ := p
      rw [sh_step hl hs]
      have := step_line hs
      exact sh_text k z y (c + 1) r (by rw [this]; exact hl) h
/-- the same, but for what nobody asks between paragraphs -/
def ShR (g : Int → Int) (pre : List Tok) (d : Nat) (x x' : Lx) : Prop := ∃ f, x' = { shF g pre d x with fresh := f } ∧ (x.ins = true → f = x.fresh)
theorem ShR.eq {x x' : Lx} (h : ShR g pre d x x') (hi : x.ins = true) : x' = shF g pre d x := by
  obtain ⟨f, rfl, h2⟩ := h
  rw [h2 hi]
  rfl
theorem begin_off {x : Lx} (h : x.ins = false) : beginS x = { x with ins := true, fresh := true } := if_pos h
theorem begin_on {x : Lx} (h : x.ins = true) : beginS x = x := if_neg (by rw [h]; decide)
theorem end_off {x : Lx} (h : x.ins = false) : endS x = .ok x := if_pos h
theorem end_on {x : Lx} (h : x.ins = true) : endS x = match x.opn.getLast? with
    | some b => .error ⟨45, b.2.1, b.2.2.1, b.1⟩
    | none => .ok { flushS x with ins := false, bl := none } := if_neg (by rw [h]; decide)
theorem sh_begin {x x' : Lx} (h : ShR g pre d x x') : beginS x' = shF g pre d (beginS x) := by
  cases hi : x.ins with
  | true =>
    rw [h.eq hi, begin_on hi]
    exact begin_on hi
  | false =>
    obtain ⟨f, rfl, h2⟩ := h
    rw [begin_off hi]
    exact (begin_off (x := { shF g pre d x with fresh := f }) hi).trans rfl
theorem sh_end {x y x' : Lx} (h : ShR g pre d x x') (he : endS x = .ok y) : ∃ y', endS x' = .ok y' ∧ ShR g pre d y y' ∧ y'.line = x'.line ∧ y.line = x.line := by
  cases hi : x.ins with
  | true =>
    have hx := h.eq hi
    subst hx
    rw [end_on hi] at he
    have hon : endS (shF g pre d x) = _ := end_on hi
    rw [hon]
    cases ho : x.opn.getLast? with
    | some b => rw [ho] at he; cases he
    | none =>
      rw [ho] at he
      cases he
      rw [List.getLast?_eq_none_iff] at ho
      have : (shF g pre d x).opn = [] := (sh_opn_nil x).2 ho
      rw [this]
      refine ⟨_, rfl, ⟨x.fresh, ?_, fun e => by cases e⟩, rfl, rfl⟩
      rw [sh_flush]
      simp [shF, flushS]
  | false =>
    obtain ⟨f, rfl, h2⟩ := h
    rw [end_off hi] at he
    cases he
    exact ⟨_, end_off hi, ⟨f, rfl, h2⟩, rfl, rfl⟩
theorem chk_line {n m : Nat} {l : Bs} (h : chkS n l = none) : chkS m l = none := by
  unfold chkS at h ⊢
  split at h
  · cases h
  · rename_i h1
    rw [if_neg h1]
    split at h
    · rename_i h2; rw [if_pos h2]
    · cases h
theorem ShR.line {x x' : Lx} (h : ShR g pre d x x') : x'.line = x.line + d := by
  obtain ⟨f, rfl, _⟩ := h
  rfl
theorem ShR.snoc {x x' : Lx} (h : ShR g pre d x x') (t : Tok) : ShR g pre d { x with out := x.out ++ [t] } { x' with out := x'.out ++ [mapT g t] } := by
  obtain ⟨f, rfl, h2⟩ := h
  exact ⟨f, by simp [shF], h2⟩
theorem sh_take {x y x' : Lx} {l : Bs} (h : ShR g pre d x x') (hl : g x.line = ((x.line + d : Nat) : Int)) (ht : takeS x l = .ok y) : ∃ y', takeS x' l = .ok y' ∧ ShR g pre d y y' := by
  obtain ⟨hc, hw⟩ := take_cases ht
  have hc' := chk_line (m := x'.line) hc
  have hln := h.line
  unfold takeS
  rw [hc']
  rcases hw with ⟨hp, rfl⟩ | ⟨z, t, hp, hz, rfl, _, hk⟩ | ⟨hp, h1, h2, htx⟩
  · simp only [hp, if_true]
    exact ⟨x', rfl, h⟩
  · obtain ⟨z', q1, q2, q3, q4⟩ := sh_end h hz
    have e : ((z'.line : Nat) : Int) = g z.line := by rw [q3, hln, q4, hl]
    rcases hk with ⟨k1, rfl⟩ | ⟨k1, k2, k3, rfl⟩
    · simp only [hp, Bool.false_eq_true, if_false, k1, if_true, q1]
      refine ⟨_, rfl, ?_⟩
      have := q2.snoc (2, [], [], (z.line : Int), 1, ())
      rw [e]
      exact this
    · simp only [hp, Bool.false_eq_true, if_false, k1, k2, if_true]
      unfold dirS at k3 ⊢
      split at k3
      · cases k3
      · rename_i he
        rw [if_neg he, q1]
        refine ⟨_, rfl, ?_⟩
        have := q2.snoc (1, (l.drop 1).take (lets (l.drop 1)), Lib.trimS (l.drop (1 + lets (l.drop 1))) [32, 9], (z.line : Int), 1, ())
        rw [e]
        exact this
  · simp only [hp, Bool.false_eq_true, if_false, h1, h2]
    rw [sh_begin h]
    have := sh_text (g := g) (pre := pre) (d := d) 0 (beginS x) y 1 l (by rw [begin_line]; exact hl) htx
    exact ⟨_, this, ⟨y.fresh, rfl, fun _ => rfl⟩⟩
theorem sh_lines : ∀ (L : List Bs) (x y x' : Lx), (∀ n : Nat, x.line < n → g n = ((n + d : Nat) : Int)) → ShR g pre d x x' → linesK x L = .ok y → ∃ y', linesK x' L = .ok y' ∧ ShR g pre d y y'
  | [], x, y, x', hg, h, hk => by cases hk; exact ⟨x', rfl, h⟩
  | l :: L, x, y, x', hg, h, hk => by
    rw [linesK] at hk
    cases ht : takeS (nextL x) (crS l) with
    | error w => rw [ht] at hk; cases hk
    | ok z =>
      rw [ht] at hk
      have hn : ShR g pre d (nextL x) (nextL x') := by
        obtain ⟨f, rfl, h2⟩ := h
        exact ⟨f, by simp [nextL, shF]; omega, h2⟩
      obtain ⟨z', t1, t2⟩ := sh_take hn (hg (x.line + 1) (by omega)) ht
      have hz : z.line = x.line + 1 := take_line ht
      obtain ⟨y', u1, u2⟩ := sh_lines L z y z' (fun n hn => hg n (by omega)) t2 hk
      refine ⟨y', ?_, u2⟩
      rw [linesK, t1]
      exact u1
end
theorem linesK_append : ∀ (L M : List Bs) (x y : Lx), linesK x L = .ok y → linesK x (L ++ M) = linesK y M
  | [], M, x, y, h => by cases h; rfl
  | l :: L, M, x, y, h => by
    rw [linesK] at h
    rw [List.cons_append, linesK]
    cases ht : takeS (nextL x) (crS l) with
    | error w => rw [ht] at h; cases h
    | ok z =>
      rw [ht] at h
      exact linesK_append L M z y h
theorem linesK_split : ∀ (L M : List Bs) (x y : Lx), linesK x (L ++ M) = .ok y → ∃ z, linesK x L = .ok z ∧ linesK z M = .ok y
  | [], M, x, y, h => ⟨x, rfl, h⟩
  | l :: L, M, x, y, h => by
    rw [List.cons_append, linesK] at h
    cases ht : takeS (nextL x) (crS l) with
    | error w => rw [ht] at h; cases h
    | ok z =>
      rw [ht] at h
      obtain ⟨u, u1, u2⟩ := linesK_split L M z y h
      exact ⟨u, by rw [linesK, ht]; exact u1, u2⟩
/-- a source whose first part ends a line -/
theorem linesA_append : ∀ (p q cur : Bs), linesA cur (p ++ 10 :: q) = linesA cur (p ++ [10]) ++ linesA [] q
  | [], q, cur => by simp [linesA]
  | b :: p, q, cur => by
    rw [List.cons_append, List.cons_append, linesA, linesA]
    split
    · rw [linesA_append p q []]; rfl
    · exact linesA_append p q _
theorem linesA_last : ∀ (p cur : Bs), p ≠ [] → p.getLast? ≠ some 10 → linesA cur (p ++ [10]) = linesA cur p
  | [], cur, h, _ => absurd rfl h
  | [b], cur, _, h => by
    have hb : b ≠ 10 := fun e => h (by simp [e])
    simp [linesA, hb]
  | b :: c :: p, cur, _, h => by
    have h : (c :: p).getLast? ≠ some 10 := by simpa using h
    rw [List.cons_append, linesA, linesA]
    split
    · rw [linesA_last (c :: p) [] (by simp) h]
    · exact linesA_last (c :: p) _ (by simp) h
/-- what is behind the end of the source -/
theorem lex_parts {a b : Bs} {ta tb : List Tok} (ha : lexS a = .ok ta) (hb : lexS b = .ok tb) (h0 : a ≠ []) (h10 : a.getLast? ≠ some 10) (hl : a.length + 2 + b.length ≤ 65536) (g : Int → Int) (hg : ∀ n : Nat, 0 < n → g n = ((n + ((linesA [] a).length + 1) : Nat) : Int)) :
    lexS (a ++ 10 :: 10 :: b) = .ok (ta ++ (2, [], [], (((linesA [] a).length + 1 : Nat) : Int), 1, ()) :: tb.map (mapT g)) := by
  have e : linesA [] (a ++ 10 :: 10 :: b) = linesA [] a ++ [] :: linesA [] b := by
    rw [linesA_append, linesA_last a [] h0 h10]
    congr 1
  have hidle : Idle lx0 := fun _ => ⟨rfl, rfl, rfl⟩
  unfold lexS at ha hb ⊢
  rw [if_neg (by omega)] at ha hb
  rw [if_neg (by simp; omega), e]
  cases hka : linesK lx0 (linesA [] a) with
  | error w => rw [hka] at ha; cases ha
  | ok ya =>
    rw [hka] at ha
    cases hea : endS ya with
    | error w => simp only [hea] at ha; cases ha
    | ok za =>
      simp only [hea] at ha
      cases ha
      cases hkb : linesK lx0 (linesA [] b) with
      | error w => rw [hkb] at hb; cases hb
      | ok yb =>
        rw [hkb] at hb
        cases heb : endS yb with
        | error w => simp only [heb] at hb; cases hb
        | ok zb =>
          simp only [heb] at hb
          cases hb
          obtain ⟨i1, i2, _, _⟩ := lines_pos _ _ _ hidle hka (by simp [posL, lx0, runP])
          obtain ⟨f1, f2, f3, f4⟩ := end_idle i1 hea
          have hln : ya.line = (linesA [] a).length := by rw [i2]; simp [lx0]
          have hzl := end_line hea
          have hen : endS (nextL ya) = .ok (nextL za) := by
            have hx := hea
            cases hi : ya.ins with
            | false =>
              rw [end_off hi] at hx
              cases hx
              exact end_off hi
            | true =>
              rw [end_on hi] at hx
              have hon : endS (nextL ya) = _ := end_on hi
              rw [hon]
              have e0 : (nextL ya).opn = ya.opn := rfl
              rw [e0]
              cases ho : ya.opn.getLast? with
              | some b => rw [ho] at hx; cases hx
              | none =>
                rw [ho] at hx
                cases hx
                rfl
          let w : Lx := { nextL za with out := za.out ++ [(2, [], [], (((linesA [] a).length + 1 : Nat) : Int), 1, ())] }
          have htk : takeS (nextL ya) (crS []) = .ok w := by
            have c1 : crS [] = [] := rfl
            unfold takeS
            rw [c1]
            have c2 : chkS (nextL ya).line [] = none := by
              unfold chkS
              rw [if_neg (by decide), if_pos (by rfl)]
            rw [c2]
            have c3 : Lib.hasPrefix [] [35] = false := rfl
            have c4 : Lib.trimS [] [32, 9] = [] := rfl
            simp only [c3, Bool.false_eq_true, if_false, c4, if_true, hen]
            have hl3 : (nextL za).line = (linesA [] a).length + 1 := by show za.line + 1 = _; rw [hzl, hln]
            have e3 : ({ nextL za with out := (nextL za).out ++ [(2, [], [], (((nextL za).line : Nat) : Int), 1, ())] } : Lx) = w := by
              have : (((nextL za).line : Nat) : Int) = (((linesA [] a).length + 1 : Nat) : Int) := by rw [hl3]
              simp only [w, this]
              rfl
            exact congrArg Except.ok e3
          have hR : ShR g (za.out ++ [(2, [], [], (((linesA [] a).length + 1 : Nat) : Int), 1, ())]) ((linesA [] a).length + 1) lx0 w := by
            refine ⟨w.fresh, ?_, fun e => by cases e⟩
            have : w.line = (linesA [] a).length + 1 := by show za.line + 1 = _; rw [hzl, hln]
            simp only [shF, lx0, w, List.map_nil, List.append_nil, Option.map_none]
            simp only [nextL, f1, f2, f3, f4]
            simp [hzl, hln]
          obtain ⟨yb', u1, u2⟩ := sh_lines (g := g) _ _ _ _ (fun n hn => hg n (by simpa [lx0] using hn)) hR hkb
          obtain ⟨zb', v1, v2, _, _⟩ := sh_end u2 heb
          have hfin : linesK lx0 (linesA [] a ++ [] :: linesA [] b) = .ok yb' := by
            rw [linesK_append _ _ _ _ hka, linesK, htk]
            exact u1
          rw [hfin]
          simp only [v1]
          obtain ⟨f, rfl, _⟩ := v2
          simp [shF]
end Go.Fn
/- Chapter 4, plainly: plain texts; what is escaped, read again; a comment. -/
namespace Go.Fn
open Go Go.Lf
def goodL (l : Bs) : Bool := !(ctlB ((Lib.decodeL l).1 : Int)) && !(decide ((Lib.decodeL l).1 = 65533) && decide ((Lib.decodeL l).2 = 1))
inductive PlainP : Bs → Prop
  | nil : PlainP []
  | step {l : Bs} : l ≠ [] → goodL l = true → PlainP (l.drop (Lib.decodeL l).2) → PlainP l
theorem PlainP.inv {l : Bs} (h : PlainP l) : l = [] ∨ (l ≠ [] ∧ goodL l = true ∧ PlainP (l.drop (Lib.decodeL l).2)) := by
  cases h with
  | nil => exact .inl rfl
  | step h1 h2 h3 => exact .inr ⟨h1, h2, h3⟩
theorem drop_bytes (l : Bs) (p : Nat) : (⟨(l.drop p).toArray⟩ : ByteArray) = (⟨l.toArray⟩ : ByteArray).extract p (⟨l.toArray⟩ : ByteArray).size := by
  apply ByteArray.ext
  rw [ByteArray.data_extract]
  apply Array.ext'
  simp [ByteArray.size]
  exact (List.take_of_length_le (by simp)).symm
theorem decode_drop (l : Bs) (p : Nat) : Utf8.decode ⟨l.toArray⟩ p = Lib.decodeL (l.drop p) := by
  unfold Lib.decodeL
  rw [drop_bytes, Lib.tail_decode, Nat.add_zero]
theorem bad_drop (l : Bs) (p : Nat) (hp : p < l.length) : badB ⟨l.toArray⟩ p = (decide ((Lib.decodeL (l.drop p)).1 = 65533) && decide ((Lib.decodeL (l.drop p)).2 = 1)) := by
  unfold badB
  rw [← drop_bytes, decodeGo_L _ (by intro e; have := congrArg List.length e; simp at this; omega)]
  generalize Lib.decodeL (l.drop p) = z
  have e1 : decide (((z.1 : Nat) : Int) = 65533) = decide (z.1 = 65533) := by
    by_cases h : z.1 = 65533
    · simp [h]
    · have : ¬ ((z.1 : Nat) : Int) = 65533 := by omega
      simp [h, this]
  have e2 : (((z.2 : Nat) : Int) == 1) = decide (z.2 = 1) := by
    by_cases h : z.2 = 1
    · simp [h]
    · have : ¬ ((z.2 : Nat) : Int) = 1 := by omega
      simp [h, this]
  rw [e1, e2]
theorem good_drop (l : Bs) (p : Nat) (hp : p < l.length) : (ctlB ((Utf8.decode ⟨l.toArray⟩ p).1 : Int) || (decide (((Utf8.decode ⟨l.toArray⟩ p).1 : Int) = 65533) && badB ⟨l.toArray⟩ p)) = !(goodL (l.drop p)) := by
  rw [bad_drop l p hp, decode_drop]
  unfold goodL
  generalize Lib.decodeL (l.drop p) = z
  have e1 : decide (((z.1 : Nat) : Int) = 65533) = decide (z.1 = 65533) := by
    by_cases h : z.1 = 65533
    · simp [h]
    · have : ¬ ((z.1 : Nat) : Int) = 65533 := by omega
      simp [h, this]
  rw [e1]
  cases ctlB (z.1 : Int) <;> cases decide (z.1 = 65533) <;> cases decide (z.2 = 1) <;> rfl
theorem plainF_P (l : Bs) : ∀ (f p : Nat), l.length ≤ p + f → ((plainF ⟨l.toArray⟩ f p).2 = true ↔ PlainP (l.drop p))
  | 0, p, h => by
    rw [List.drop_eq_nil_of_le (by omega)]
    exact ⟨fun _ => .nil, fun _ => rfl⟩
  | f + 1, p, h => by
    have hsz : (⟨l.toArray⟩ : ByteArray).size = l.length := Eng.str_size l
    unfold plainF
    by_cases hp : p < l.length
    · rw [if_pos (by rw [hsz]; exact hp), good_drop l p hp, decode_drop]
      have hw := Lib.decodeL_width (l.drop p)
      have ih := plainF_P l f (p + (Lib.decodeL (l.drop p)).2) (by omega)
      have hne : l.drop p ≠ [] := by intro e; have := congrArg List.length e; simp at this; omega
      rw [← List.drop_drop] at ih
      cases hg : goodL (l.drop p) with
      | true =>
        simp only [Bool.not_true, Bool.false_eq_true, if_false]
        rw [ih]
        exact ⟨fun q => .step hne hg q, fun q => by
          rcases q.inv with h | h
          · exact absurd h hne
          · exact h.2.2⟩
      | false =>
        simp only [Bool.not_false, if_true, Bool.false_eq_true, false_iff]
        intro q
        rcases q.inv with h | h
        · exact absurd h hne
        · rw [hg] at h; cases h.2.1
    · rw [if_neg (by rw [hsz]; exact hp), List.drop_eq_nil_of_le (by omega)]
      exact ⟨fun _ => .nil, fun _ => rfl⟩
theorem plain_P (l : Bs) : (plainS l).2 = true ↔ PlainP l := by
  have := plainF_P l l.length 0 (by omega)
  exact this
theorem plain_cons (b : UInt8) (r : Bs) (hb : b.toNat < 128) (h1 : 32 ≤ b.toNat) (h2 : b.toNat ≠ 127) : PlainP (b :: r) ↔ PlainP r := by
  have hd := Lib.decodeL_ascii b r hb
  have hg : goodL (b :: r) = true := by
    unfold goodL ctlB
    rw [hd]
    have e1 : ¬ ((b.toNat : Nat) : Int) < 32 := by omega
    have e2 : ¬ ((127 : Int) ≤ ((b.toNat : Nat) : Int)) := by omega
    have e3 : ¬ b.toNat = 65533 := by omega
    simp [e1, e2, e3]
  constructor
  · intro h
    cases h with
    | step _ _ q => rw [hd] at q; exact q
  · intro h
    exact .step (by simp) hg (by rw [hd]; exact h)
/-- the first character of a plain text -/
theorem plain_shape {l : Bs} (hne : l ≠ []) (hg : goodL l = true) :
    (∃ b r, l = b :: r ∧ 32 ≤ b.toNat ∧ b.toNat < 127 ∧ (Lib.decodeL l).2 = 1) ∨
    (∃ u t, l = u ++ t ∧ u ≠ [] ∧ u.length = (Lib.decodeL l).2 ∧ (∀ b ∈ u, 128 ≤ b.toNat) ∧ ∀ t', goodL (u ++ t') = true ∧ (Lib.decodeL (u ++ t')).2 = u.length) := by
  obtain ⟨b, r, rfl⟩ := List.exists_cons_of_ne_nil hne
  rcases Lib.decodeN_shape (b :: r).length ((b :: r).getD 0 0).toNat ((b :: r).getD 1 0).toNat ((b :: r).getD 2 0).toNat ((b :: r).getD 3 0).toNat with ⟨c, e⟩ | ⟨c1, c2, c3, cv, e⟩ | ⟨c1, c2, c3, c4, cv, cs, e⟩ | ⟨c1, c2, c3, c4, c5, cv, cw, e⟩ | e
  · rw [← Lib.decodeL_N] at e
    left
    have c : b.toNat < 128 := c
    have e : Lib.decodeL (b :: r) = (b.toNat, 1) := e
    unfold goodL ctlB at hg
    rw [e] at hg
    simp only [Bool.and_eq_true, Bool.not_eq_true', Bool.or_eq_false_iff, decide_eq_false_iff_not, Bool.and_eq_false_iff] at hg
    refine ⟨b, r, rfl, by omega, ?_, by rw [e]⟩
    omega
  · rw [← Lib.decodeL_N] at e
    right
    obtain ⟨b1, t, rfl⟩ : ∃ b1 t, r = b1 :: t := List.exists_cons_of_ne_nil (by intro h; subst h; simp at c2)
    have d1 : b.toNat / 32 = 6 := c1
    have d3 : b1.toNat / 64 = 2 := c3
    have dv : 128 ≤ b.toNat % 32 * 64 + b1.toNat % 64 := cv
    refine ⟨[b, b1], t, rfl, by simp, by rw [e]; rfl, by simp; omega, fun t' => ?_⟩
    have e' : Lib.decodeL ([b, b1] ++ t') = Lib.decodeL (b :: b1 :: t) := by
      rw [e, Lib.decodeL_N]
      show Lib.decodeN (t'.length + 1 + 1) b.toNat b1.toNat _ _ = _
      unfold Lib.decodeN
      rw [if_neg (by omega), if_pos ⟨d1, by omega, d3⟩, if_pos dv]
      rfl
    refine ⟨?_, by rw [e', e]; rfl⟩
    unfold goodL at hg ⊢
    rw [e']; exact hg
  · rw [← Lib.decodeL_N] at e
    right
    obtain ⟨b1, t1, rfl⟩ : ∃ b1 t, r = b1 :: t := List.exists_cons_of_ne_nil (by intro h; subst h; simp at c2)
    obtain ⟨b2, t, rfl⟩ : ∃ b1 t, t1 = b1 :: t := List.exists_cons_of_ne_nil (by intro h; subst h; simp at c2)
    have d1 : b.toNat / 16 = 14 := c1
    have d3 : b1.toNat / 64 = 2 := c3
    have d4 : b2.toNat / 64 = 2 := c4
    have dv : 2048 ≤ b.toNat % 16 * 4096 + b1.toNat % 64 * 64 + b2.toNat % 64 := cv
    have ds : b.toNat % 16 * 4096 + b1.toNat % 64 * 64 + b2.toNat % 64 < 55296 ∨ 57344 ≤ b.toNat % 16 * 4096 + b1.toNat % 64 * 64 + b2.toNat % 64 := cs
    have m0 := Nat.mod_lt b.toNat (y := 16) (by decide)
    have m1 := Nat.mod_lt b1.toNat (y := 64) (by decide)
    have m2 := Nat.mod_lt b2.toNat (y := 64) (by decide)
    have du : b.toNat % 16 * 4096 + b1.toNat % 64 * 64 + b2.toNat % 64 < 55296 ∨ (57344 ≤ b.toNat % 16 * 4096 + b1.toNat % 64 * 64 + b2.toNat % 64 ∧ b.toNat % 16 * 4096 + b1.toNat % 64 * 64 + b2.toNat % 64 ≤ 1114111) := by
      rcases ds with h | h
      · exact .inl h
      · exact .inr ⟨h, by omega⟩
    refine ⟨[b, b1, b2], t, rfl, by simp, by rw [e]; rfl, by simp; omega, fun t' => ?_⟩
    have e' : Lib.decodeL ([b, b1, b2] ++ t') = Lib.decodeL (b :: b1 :: b2 :: t) := by
      rw [e, Lib.decodeL_N]
      show Lib.decodeN (t'.length + 1 + 1 + 1) b.toNat b1.toNat b2.toNat _ = _
      unfold Lib.decodeN
      rw [if_neg (by omega), if_neg (by omega), if_pos ⟨d1, ⟨by omega, d3⟩, by omega, d4⟩, if_pos ⟨dv, du⟩]
      rfl
    refine ⟨?_, by rw [e', e]; rfl⟩
    unfold goodL at hg ⊢
    rw [e']; exact hg
  · rw [← Lib.decodeL_N] at e
    right
    obtain ⟨b1, t1, rfl⟩ : ∃ b1 t, r = b1 :: t := List.exists_cons_of_ne_nil (by intro h; subst h; simp at c2)
    obtain ⟨b2, t2, rfl⟩ : ∃ b1 t, t1 = b1 :: t := List.exists_cons_of_ne_nil (by intro h; subst h; simp at c2)
    obtain ⟨b3, t, rfl⟩ : ∃ b1 t, t2 = b1 :: t := List.exists_cons_of_ne_nil (by intro h; subst h; simp at c2)
    have d1 : b.toNat / 8 = 30 := c1
    have d3 : b1.toNat / 64 = 2 := c3
    have d4 : b2.toNat / 64 = 2 := c4
    have d5 : b3.toNat / 64 = 2 := c5
    have dv : 65536 ≤ b.toNat % 8 * 262144 + b1.toNat % 64 * 4096 + b2.toNat % 64 * 64 + b3.toNat % 64 := cv
    have dw : b.toNat % 8 * 262144 + b1.toNat % 64 * 4096 + b2.toNat % 64 * 64 + b3.toNat % 64 ≤ 1114111 := cw
    refine ⟨[b, b1, b2, b3], t, rfl, by simp, by rw [e]; rfl, by simp; omega, fun t' => ?_⟩
    have e' : Lib.decodeL ([b, b1, b2, b3] ++ t') = Lib.decodeL (b :: b1 :: b2 :: b3 :: t) := by
      rw [e, Lib.decodeL_N]
      show Lib.decodeN (t'.length + 1 + 1 + 1 + 1) b.toNat b1.toNat b2.toNat b3.toNat = _
      unfold Lib.decodeN
      rw [if_neg (by omega), if_neg (by omega), if_neg (by omega), if_pos ⟨d1, ⟨by omega, d3⟩, ⟨by omega, d4⟩, by omega, d5⟩, if_pos ⟨dv, .inr ⟨Nat.le_trans (by omega : 57344 ≤ 65536) dv, dw⟩⟩]
      rfl
    refine ⟨?_, by rw [e', e]; rfl⟩
    unfold goodL at hg ⊢
    rw [e']; exact hg
  · rw [← Lib.decodeL_N] at e
    unfold goodL at hg
    rw [e] at hg
    simp at hg
/-- plain texts hold no signs of control -/
theorem plain_mem {l : Bs} (h : PlainP l) : ∀ b ∈ l, 32 ≤ b.toNat ∧ b.toNat ≠ 127 := by
  induction h with
  | nil => simp
  | step hne hg hp ih =>
    rcases plain_shape hne hg with ⟨b, r, rfl, h1, h2, h3⟩ | ⟨u, t, rfl, _, h2, h3, _⟩
    · rw [h3] at ih
      intro c hc
      rcases List.mem_cons.1 hc with rfl | hc
      · omega
      · exact ih c hc
    · rw [← h2, List.drop_left] at ih
      intro c hc
      rcases List.mem_append.1 hc with hc | hc
      · have := h3 c hc; omega
      · exact ih c hc
def escT : Bool → Bs → Bs
  | _, [] => []
  | f, b :: r => (if escB (if f then 0 else 1) b then [92, b] else [b]) ++ escT false r
theorem escT_N (s : Bs) : ∀ (m k : Nat), k + m = s.length → escN s k ++ escT (k == 0) (s.drop k) = escN s s.length
  | 0, k, h => by
    rw [List.drop_eq_nil_of_le (by omega), show k = s.length by omega]
    simp [escT]
  | m + 1, k, h => by
    have hk : k < s.length := by omega
    have ih := escT_N s m (k + 1) (by omega)
    rw [escN_succ, List.getElem?_eq_getElem hk] at ih
    rw [List.drop_eq_getElem_cons hk, escT, ← List.append_assoc]
    have e : escB (if (k == 0) = true then 0 else 1) s[k] = escB k s[k] := by
      cases k with
      | zero => rfl
      | succ k => simp [escB]
    rw [e]
    exact ih
theorem escape_T (s : Bs) (h : s.length ≤ 70368744177664) : mark_Escape s = some (escT true s) := by
  have h1 : mark_Escape s = some (escN s s.length) := if_pos h
  rw [h1, ← escT_N s s.length 0 (by omega)]
  rfl
theorem escT_len (f : Bool) (s : Bs) : (escT f s).length ≤ 2 * s.length := by
  induction s generalizing f with
  | nil => simp [escT]
  | cons b r ih =>
    have := ih false
    rw [escT, List.length_append, List.length_cons]
    generalize (if f = true then 0 else 1) = k
    split <;> simp <;> omega
theorem esc_ascii {k : Nat} {b : UInt8} (h : escB k b = true) : b = 92 ∨ b = 123 ∨ b = 125 ∨ b = 124 ∨ b = 46 ∨ b = 35 := by
  unfold escB at h
  simp only [Bool.or_eq_true, Bool.and_eq_true, beq_iff_eq] at h
  rcases h with (((h | h) | h) | h) | ⟨_, h | h⟩ <;> simp [h]
theorem escT_high : ∀ (u : Bs) (f : Bool) (t : Bs), (∀ b ∈ u, 128 ≤ b.toNat) → u ≠ [] → escT f (u ++ t) = u ++ escT false t
  | [], f, t, _, hne => absurd rfl hne
  | b :: u, f, t, h, _ => by
    have hb := h b (by simp)
    have he : ∀ k, escB k b = false := by
      intro k
      cases hh : escB k b with
      | false => rfl
      | true =>
        have := esc_ascii hh
        rcases this with rfl | rfl | rfl | rfl | rfl | rfl <;> exact absurd hb (by decide)
    rw [List.cons_append, escT, he]
    cases u with
    | nil => rfl
    | cons c u =>
      rw [escT_high (c :: u) false t (fun d hd => h d (by simp [hd])) (by simp)]
      rfl
theorem plain_esc {s : Bs} (h : PlainP s) : ∀ f, PlainP (escT f s) := by
  induction h with
  | nil => intro f; exact .nil
  | step hne hg hp ih =>
    intro f
    rcases plain_shape hne hg with ⟨b, r, rfl, h1, h2, h3⟩ | ⟨u, t, rfl, h1, h2, h3, h4⟩
    · rw [h3] at ih
      have ih : PlainP (escT false r) := ih false
      rw [escT]
      generalize (if f = true then 0 else 1) = k
      split
      · show PlainP (92 :: b :: escT false r)
        rw [plain_cons _ _ (by decide) (by decide) (by decide), plain_cons _ _ (by omega) h1 (by omega)]
        exact ih
      · show PlainP (b :: escT false r)
        rw [plain_cons _ _ (by omega) h1 (by omega)]
        exact ih
    · rw [← h2, List.drop_left] at ih
      rw [escT_high u f t h3 h1]
      obtain ⟨g1, g2⟩ := h4 (escT false t)
      refine .step (by simp [h1]) g1 ?_
      rw [g2, List.drop_left]
      exact ih false
theorem untab_id {l : Bs} (h : ∀ b ∈ l, 32 ≤ b.toNat) : untab l = l := by
  unfold untab
  conv => rhs; rw [← List.map_id l]
  refine List.map_congr_left fun b hb => ?_
  have : b ≠ 9 := fun e => by have := h b hb; rw [e] at this; exact absurd this (by decide)
  simp [this]
theorem chk_plain {l : Bs} (n : Nat) (h : PlainP l) (hl : l.length ≤ 4096) : chkS n l = none := by
  unfold chkS
  rw [if_neg (by omega), untab_id (fun b hb => (plain_mem h b hb).1), if_pos ((plain_P l).2 h)]
theorem crS_id {l : Bs} (h : l.getLast? ≠ some 13) : crS l = l := by
  unfold crS Lib.trimSuffix
  rw [if_neg]
  intro hs
  unfold Lib.hasSuffix at hs
  rw [List.isSuffixOf_iff_suffix] at hs
  obtain ⟨p, hp⟩ := hs
  exact h (by rw [← hp]; simp)
theorem plain_cr {l : Bs} (h : PlainP l) : crS l = l := crS_id fun e => by
  have := (plain_mem h 13 (List.mem_of_getLast? e)).1
  exact absurd this (by decide)
theorem plain_10 {l : Bs} (h : PlainP l) : 10 ∉ l := fun e => absurd (plain_mem h 10 e).1 (by decide)
theorem dropWhile_nil {α : Type} {p : α → Bool} : ∀ {l : List α}, l.dropWhile p = [] → ∀ a ∈ l, p a = true
  | [], _, a, h => by cases h
  | b :: l, h, a, ha => by
    rw [List.dropWhile_cons] at h
    split at h
    · rename_i hb
      rcases List.mem_cons.1 ha with rfl | ha
      · exact hb
      · exact dropWhile_nil h a ha
    · cases h
theorem dropWhile_all {α : Type} {p : α → Bool} : ∀ {l : List α}, (∀ a ∈ l, p a = true) → l.dropWhile p = []
  | [], _ => rfl
  | b :: l, h => by
    rw [List.dropWhile_cons, if_pos (h b (by simp))]
    exact dropWhile_all fun a ha => h a (by simp [ha])
theorem dropWhile_head {α : Type} {p : α → Bool} : ∀ {l : List α} {a : α} {r : List α}, l.dropWhile p = a :: r → p a = false
  | [], _, _, h => by cases h
  | b :: l, a, r, h => by
    rw [List.dropWhile_cons] at h
    split at h
    · exact dropWhile_head h
    · rename_i hb
      cases h
      simpa using hb
theorem cs_blk (b : UInt8) : ([32, 9] : Bs).contains b = blkB b := by
  unfold blkB
  simp only [List.contains_cons, List.contains_nil, Bool.or_false]
  rw [Bool.or_comm]
/-- a line of blanks -/
theorem trim_nil (l : Bs) : Lib.trimS l [32, 9] = [] ↔ ∀ b ∈ l, blkB b = true := by
  unfold Lib.trimS Lib.trimLeftS Lib.trimRightS
  simp only [cs_blk]
  constructor
  · intro h
    have h1 := dropWhile_nil h
    have h2 : l.reverse.dropWhile (fun b => blkB b) = [] := by
      cases hd : l.reverse.dropWhile (fun b => blkB b) with
      | nil => rfl
      | cons a r =>
        have := dropWhile_head hd
        have h3 := h1 a (by rw [hd]; simp)
        rw [h3] at this; cases this
    intro b hb
    exact dropWhile_nil h2 b (by simpa using hb)
  · intro h
    have h2 : l.reverse.dropWhile (fun b => blkB b) = [] := dropWhile_all fun a ha => h a (by simpa using ha)
    rw [h2]; rfl
theorem pre35 (b : UInt8) (r : Bs) : Lib.hasPrefix (b :: r) [35] = decide (b = 35) := by
  unfold Lib.hasPrefix
  simp only [List.isPrefixOf, Bool.and_true]
  by_cases h : b = 35
  · subst h; rfl
  · simp [h, Ne.symm h]
/-- a character that was escaped, or is none of those -/
theorem esc_step {x : Lx} {k : Nat} {b : UInt8} {t : Bs} {c : Nat} (hb : 33 ≤ b.toNat) : ∃ c', textS 0 x c ((if escB k b then [92, b] else [b]) ++ t) = textS 0 (putS (settleS x) [b] x.line c) c' t := by
  cases he : escB k b with
  | true =>
    refine ⟨c + 1 + 1, ?_⟩
    have hs : spcB b = true := by
      rcases esc_ascii he with rfl | rfl | rfl | rfl | rfl | rfl <;> rfl
    show textS 0 x c (92 :: b :: t) = _
    rw [textS]
    have : stepS x c 92 (b :: t) = .ok (1, putS (settleS x) [b] x.line c) := by
      unfold stepS
      simp only [show blkB 92 = false from rfl, Bool.false_eq_true, if_false, if_true, hs]
    rw [this]
    rfl
  | false =>
    refine ⟨c + 1, ?_⟩
    have hd : dullB b = true := by
      unfold escB at he
      simp only [Bool.or_eq_false_iff, beq_eq_false_iff_ne, ne_eq] at he
      obtain ⟨⟨⟨⟨h1, h2⟩, h3⟩, h4⟩, _⟩ := he
      have h9 : b ≠ 9 := fun e => by rw [e] at hb; exact absurd hb (by decide)
      have h32 : b ≠ 32 := fun e => by rw [e] at hb; exact absurd hb (by decide)
      unfold dullB blkB
      simp [h1, h2, h3, h4, h9, h32]
    show textS 0 x c (b :: t) = _
    rw [textS, step_dull hd]
def stA (p : Bs) : Lx := ⟨[], [], true, some (p, 1, 1), none, false, 1⟩
theorem back_text : ∀ (n : Nat) (r p : Bs) (c : Nat), r.length ≤ n → nd r → r.getLast? ≠ some 32 → (∀ b ∈ r, 32 ≤ b.toNat) → ∃ c', textS 0 (stA p) c (escT false r) = .ok (waitS (stA (p ++ r)) c')
  | _, [], p, c, _, _, _, _ => ⟨c, by rw [escT, textS, List.append_nil]⟩
  | 0, b :: r, p, c, h, _, _, _ => by simp at h
  | n + 1, b :: r, p, c, h, h1, h2, h3 => by
    have nd_tail : ∀ {a : UInt8} {t : Bs}, nd (a :: t) → nd t := fun {a t} h x y e => h (a :: x) y (by rw [e]; rfl)
    have h3b := h3 b (by simp)
    by_cases hb : b = 32
    · subst hb
      cases r with
      | nil => exact absurd rfl h2
      | cons d r =>
        have hd : d ≠ 32 := fun e => h1 [] r (by rw [e]; rfl)
        have h3d := h3 d (by simp)
        have hd33 : 33 ≤ d.toNat := by
          have : d.toNat ≠ 32 := fun e => hd (UInt8.toNat_inj.1 e)
          omega
        have e1 : textS 0 (stA p) c (escT false (32 :: d :: r)) = textS 0 ⟨[], [], true, some (p, 1, 1), some (1, (c : Int)), false, 1⟩ (c + 1) ((if escB 1 d then [92, d] else [d]) ++ escT false r) := rfl
        obtain ⟨c1, e2⟩ := esc_step (x := ⟨[], [], true, some (p, 1, 1), some (1, (c : Int)), false, 1⟩) (k := 1) (c := c + 1) (t := escT false r) hd33
        have e3 : putS (settleS ⟨[], [], true, some (p, 1, 1), some (1, (c : Int)), false, 1⟩) [d] (1 : Int) ((c + 1 : Nat) : Int) = stA (p ++ [32] ++ [d]) := rfl
        obtain ⟨c2, e4⟩ := back_text n r (p ++ [32] ++ [d]) c1 (by simp at h; omega) (nd_tail (nd_tail h1)) (by
          cases r with
          | nil => simp
          | cons a t => simpa using h2) (fun a ha => h3 a (by simp [ha]))
        refine ⟨c2, ?_⟩
        rw [e1, e2]
        show textS 0 (putS (settleS ⟨[], [], true, some (p, 1, 1), some (1, (c : Int)), false, 1⟩) [d] (1 : Int) ((c + 1 : Nat) : Int)) c1 (escT false r) = _
        rw [e3, e4]
        simp
    · have hb33 : 33 ≤ b.toNat := by
        have : b.toNat ≠ 32 := fun e => hb (UInt8.toNat_inj.1 e)
        omega
      obtain ⟨c1, e2⟩ := esc_step (x := stA p) (k := 1) (c := c) (t := escT false r) hb33
      obtain ⟨c2, e4⟩ := back_text n r (p ++ [b]) c1 (by simp at h; omega) (nd_tail h1) (by
        cases r with
        | nil => simp
        | cons a t => simpa using h2) (fun a ha => h3 a (by simp [ha]))
      refine ⟨c2, ?_⟩
      have e1 : escT false (b :: r) = (if escB 1 b then [92, b] else [b]) ++ escT false r := rfl
      rw [e1, e2]
      show textS 0 (stA (p ++ [b])) c1 (escT false r) = _
      rw [e4]
      simp
theorem back_lex {s : Bs} (hp : PlainP s) (h0 : s ≠ []) (hl : s.length ≤ 2000) (h1 : s.head? ≠ some 32) (h2 : s.getLast? ≠ some 32) (h3 : nd s) : lexS (escT true s) = .ok [(6, [], s, 1, 1, ())] := by
  have hP := plain_esc hp true
  have hlen := escT_len true s
  obtain ⟨b, r, rfl⟩ := List.exists_cons_of_ne_nil h0
  have hm := plain_mem hp
  have hb32 : b ≠ 32 := fun e => h1 (by rw [e]; rfl)
  have hb33 : 33 ≤ b.toNat := by
    have h := (hm b (by simp)).1
    have : b.toNat ≠ 32 := fun e => hb32 (UInt8.toNat_inj.1 e)
    omega
  have hbk : blkB b = false := by
    have h9 : b ≠ 9 := fun e => by rw [e] at hb33; exact absurd hb33 (by decide)
    unfold blkB; simp [h9, hb32]
  have hE : escT true (b :: r) = (if escB 0 b then [92, b] else [b]) ++ escT false r := rfl
  have hhd : ∃ a t, escT true (b :: r) = a :: t ∧ a ≠ 35 ∧ a ≠ 46 ∧ blkB a = false := by
    rw [hE]
    cases he : escB 0 b with
    | true => exact ⟨92, b :: escT false r, rfl, by decide, by decide, by decide⟩
    | false =>
      refine ⟨b, escT false r, rfl, fun e => ?_, fun e => ?_, hbk⟩
      · subst e; exact absurd he (by decide)
      · subst e; exact absurd he (by decide)
  obtain ⟨a, t, ha, a35, a46, abk⟩ := hhd
  have hlA : linesA [] (escT true (b :: r)) = [escT true (b :: r)] := by
    rw [linesA_end _ _ (plain_10 hP), if_neg (by rw [ha]; simp)]
    rfl
  unfold lexS
  rw [if_neg (by simp at hl hlen; omega), hlA, linesK, plain_cr hP]
  obtain ⟨c1, e2⟩ := esc_step (x := ⟨[], [], true, none, none, true, 1⟩) (k := 0) (c := 1) (t := escT false r) hb33
  obtain ⟨c2, e4⟩ := back_text r.length r [b] c1 (Nat.le_refl _) (fun x y e => h3 (b :: x) y (by rw [e]; rfl)) (by
    cases r with
    | nil => simp
    | cons a t => simpa using h2) (fun a ha => (hm a (by simp [ha])).1)
  have htx : textS 0 (beginS (nextL lx0)) 1 (escT true (b :: r)) = .ok (waitS (stA (b :: r)) c2) := by
    show textS 0 ⟨[], [], true, none, none, true, 1⟩ 1 (escT true (b :: r)) = _
    rw [hE, e2]
    show textS 0 (stA [b]) c1 (escT false r) = _
    rw [e4]
    rfl
  have htk : takeS (nextL lx0) (escT true (b :: r)) = .ok (waitS (stA (b :: r)) c2) := by
    unfold takeS
    rw [chk_plain _ hP (by simp at hl hlen; omega)]
    have p1 : Lib.hasPrefix (escT true (b :: r)) [35] = false := by rw [ha, pre35]; simp [a35]
    have p2 : Lib.trimS (escT true (b :: r)) [32, 9] ≠ [] := by
      rw [ne_eq, trim_nil, ha]
      intro h
      have := h a (by simp)
      rw [abk] at this; cases this
    have p3 : (escT true (b :: r)).head? ≠ some 46 := by rw [ha]; simpa using a46
    simp only [p1, Bool.false_eq_true, if_false, p2, p3]
    exact htx
  rw [htk]
  rfl
/-- the open braces' lines -/
def OpnLe (x : Lx) (n : Nat) : Prop := ∀ b ∈ x.opn, b.2.1 ≤ (n : Int)
theorem step_opn {x y : Lx} {c k n : Nat} {b : UInt8} {r : Bs} (h : OpnLe x n) (hn : x.line ≤ n) (hs : stepS x c b r = .ok (k, y)) : OpnLe y n := by
  unfold stepS at hs
  repeat' split at hs
  all_goals first | (cases hs; done) | skip
  all_goals (cases hs)
  · intro b hb
    unfold waitS at hb
    split at hb
    · exact h b hb
    · exact h b hb
  · intro b hb
    have hb : b ∈ (settleS x).opn := hb
    rw [settle_opn] at hb
    exact h b hb
  · intro b hb
    rcases List.mem_append.1 hb with hb | hb
    · exact h b hb
    · simp only [List.mem_singleton] at hb
      subst hb
      show (x.line : Int) ≤ n
      omega
  · intro b hb
    exact h b ((List.dropLast_sublist _).subset hb)
  · intro b hb
    rw [tok_opn] at hb
    exact h b hb
  · intro b hb
    have hb : b ∈ (settleS x).opn := hb
    rw [settle_opn] at hb
    exact h b hb
theorem text_opn : ∀ (k : Nat) (x y : Lx) (c n : Nat) (l : Bs), OpnLe x n → x.line ≤ n → textS k x c l = .ok y → OpnLe y n
  | 0, x, y, c, n, [], h, hn, ht => by
    cases ht
    intro b hb
    unfold waitS at hb
    split at hb <;> exact h b hb
  | k + 1, x, y, c, n, [], h, hn, ht => by
    cases ht
    intro b hb
    unfold waitS at hb
    split at hb <;> exact h b hb
  | k + 1, x, y, c, n, _ :: r, h, hn, ht => text_opn k x y (c + 1) n r h hn ht
  | 0, x, y, c, n, b :: r, h, hn, ht => by
    rw [textS] at ht
    cases hs : stepS x c b r with
    | error w => rw [hs] at ht; cases ht
    | ok p =>
      rw [hs] at ht
      exact text_opn p.1 p.2 y (c + 1) n r (step_opn h hn hs) (by rw [step_line hs]; exact hn) ht
theorem end_opn {x y : Lx} {n : Nat} (h : OpnLe x n) (he : endS x = .ok y) : OpnLe y n := by
  unfold endS at he
  split at he
  · cases he; exact h
  · split at he
    · cases he
    · cases he; exact h
theorem take_opn {x y : Lx} {l : Bs} {n : Nat} (h : OpnLe x n) (hn : x.line ≤ n) (ht : takeS x l = .ok y) : OpnLe y n := by
  obtain ⟨_, hc⟩ := take_cases ht
  rcases hc with ⟨_, rfl⟩ | ⟨z, t, _, hz, rfl, _⟩ | ⟨_, _, _, ht⟩
  · exact h
  · have := end_opn h hz
    exact this
  · refine text_opn 0 (beginS x) y 1 n l ?_ (by rw [begin_line]; exact hn) ht
    unfold beginS
    split <;> exact h
theorem lines_opn : ∀ (L : List Bs) (x y : Lx), OpnLe x x.line → linesK x L = .ok y → OpnLe y y.line
  | [], x, y, h, hk => by cases hk; exact h
  | l :: L, x, y, h, hk => by
    rw [linesK] at hk
    cases ht : takeS (nextL x) (crS l) with
    | error w => rw [ht] at hk; cases hk
    | ok z =>
      rw [ht] at hk
      have hl := take_line ht
      refine lines_opn L z y ?_ hk
      rw [hl]
      refine take_opn (x := nextL x) ?_ (Nat.le_refl _) ht
      intro b hb
      have := h b hb
      show b.2.1 ≤ ((x.line + 1 : Nat) : Int)
      omega
theorem linesA_two (p q : Bs) (hp : p = [] ∨ p.getLast? = some 10) : linesA [] (p ++ q) = linesA [] p ++ linesA [] q := by
  rcases hp with rfl | hp
  · simp [linesA]
  · rcases List.eq_nil_or_concat p with rfl | ⟨p', c, rfl⟩
    · cases hp
    · rw [List.concat_eq_append] at *
      have : c = 10 := by simpa using hp
      subst this
      rw [List.append_assoc]
      exact linesA_append p' q []
theorem lex_comment {p q m : Bs} {ts : List Tok} (h : lexS (p ++ q) = .ok ts) (hp : p = [] ∨ p.getLast? = some 10) (hm : PlainP m) (hm1 : m.length ≤ 4095) (hl : p.length + q.length + m.length + 2 ≤ 65536) :
    lexS (p ++ 35 :: m ++ 10 :: q) = .ok (ts.map (mapT fun n => if ((((linesA [] p).length + 1 : Nat) : Int)) ≤ n then n + 1 else n)) := by
  have hidle : Idle lx0 := fun _ => ⟨rfl, rfl, rfl⟩
  have h35 : PlainP (35 :: m) := (plain_cons _ _ (by decide) (by decide) (by decide)).2 hm
  have e : linesA [] (p ++ 35 :: m ++ 10 :: q) = linesA [] p ++ (35 :: m) :: linesA [] q := by
    rw [List.append_assoc, linesA_two p _ hp]
    congr 1
    exact linesA_cut (35 :: m) [] q (plain_10 h35)
  unfold lexS at h ⊢
  rw [if_neg (by simp; omega)] at h
  rw [if_neg (by simp; omega), e]
  rw [linesA_two p q hp] at h
  cases hk : linesK lx0 (linesA [] p ++ linesA [] q) with
  | error w => rw [hk] at h; cases h
  | ok y =>
    rw [hk] at h
    obtain ⟨z, z1, z2⟩ := linesK_split _ _ _ _ hk
    cases he : endS y with
    | error w => simp only [he] at h; cases h
    | ok w =>
      simp only [he] at h
      cases h
      obtain ⟨i1, i2, _, i4⟩ := lines_pos _ _ _ hidle z1 (by simp [posL, lx0, runP])
      have hln : z.line = (linesA [] p).length := by rw [i2]; simp [lx0]
      have hop := lines_opn _ _ _ (fun b hb => by simp [lx0] at hb) z1
      have hpos : ∀ u ∈ posL z, u.1 ≤ (((linesA [] p).length : Nat) : Int) := by
        intro u hu
        rcases i4 u hu with h | ⟨j, l, h1, h2, _⟩
        · simp [posL, lx0, runP] at h
        · have := (List.getElem?_eq_some_iff.1 h1).1
          rw [h2]; simp [lx0]; omega
      generalize hk0 : (linesA [] p).length = k at *
      let g : Int → Int := fun n => if (((k + 1 : Nat) : Int)) ≤ n then n + 1 else n
      have hgi : ∀ n : Int, n ≤ (k : Int) → g n = n := fun n hn => if_neg (by omega)
      have htk : takeS (nextL z) (crS (35 :: m)) = .ok (nextL z) := by
        rw [plain_cr h35]
        unfold takeS
        rw [chk_plain _ h35 (by simp; omega)]
        have p1 : Lib.hasPrefix (35 :: m) [35] = true := by rw [pre35]; rfl
        simp only [p1, if_true]
      have hR : ShR g [] 1 z (nextL z) := by
        refine ⟨z.fresh, ?_, fun _ => rfl⟩
        obtain ⟨out, opn, ins, run, bl, fresh, line⟩ := z
        have e1 : out.map (mapT g) = out := by
          conv => rhs; rw [← List.map_id out]
          refine List.map_congr_left fun t ht => ?_
          have := hgi t.2.2.2.1 (hpos (posT t) (by simp only [posL]; exact List.mem_append_left _ (List.mem_map_of_mem ht)))
          unfold mapT
          rw [this]; rfl
        have e2 : opn.map (fun b => (b.1, g b.2.1, b.2.2)) = opn := by
          conv => rhs; rw [← List.map_id opn]
          refine List.map_congr_left fun b hb => ?_
          have h1 := hop b hb
          have hln : line = k := hln
          have := hgi b.2.1 (by rw [← hln]; exact h1)
          rw [this]; rfl
        have e3 : run.map (fun r => (r.1, g r.2.1, r.2.2)) = run := by
          cases run with
          | none => rfl
          | some r =>
            have := hgi r.2.1 (hpos r.2 (by simp [posL, runP]))
            simp [this]
        have e4 : bl.map (fun r => (g r.1, r.2)) = bl := by
          cases bl with
          | none => rfl
          | some r =>
            have := hgi r.1 (hpos r (by simp [posL]))
            simp [this]
        simp only [shF, e1, e2, e3, e4, nextL, List.nil_append]
      obtain ⟨y', u1, u2⟩ := sh_lines (g := g) _ _ _ _ (fun n hn => by
        show (if (((k + 1 : Nat) : Int)) ≤ (n : Int) then (n : Int) + 1 else (n : Int)) = _
        rw [if_pos (by omega)]; omega) hR z2
      obtain ⟨w', v1, v2, _, _⟩ := sh_end u2 he
      have hfin : linesK lx0 (linesA [] p ++ (35 :: m) :: linesA [] q) = .ok y' := by
        rw [linesK_append _ _ _ _ z1, linesK, htk]
        exact u1
      rw [hfin]
      simp only [v1]
      obtain ⟨f, rfl, _⟩ := v2
      simp [shF, g]
end Go.Fn
open Go Go.Lf
set_option maxRecDepth 10000
namespace Go.Fn
def Tys2 : List (Nat × Go.Lf.TyI) := [(2, ⟨(.int .i64), 0, 0⟩),
 (3, ⟨(.int .i64), 0, 0⟩),
 (4, ⟨.bool, 0, 0⟩),
 (5, ⟨(.int .u8), 0, 0⟩),
 (6, ⟨(.int .u8), 0, 0⟩),
 (7, ⟨(.st (.pr (.int .i64) (.pr (.int .i64) (.pr .bool (.pr (.int .u8) .unit))))), 0, 0⟩),
 (8, ⟨(.st (.pr (.int .i64) (.pr (.int .i64) (.pr .bool (.pr (.int .u8) .unit))))), 0, 0⟩),
 (9, ⟨.str, 0, 0⟩),
 (10, ⟨.str, 0, 0⟩),
 (11, ⟨.str, 0, 0⟩),
 (12, ⟨(.int .u64), 0, 0⟩),
 (13, ⟨(.st (.pr .str (.pr (.int .u64) .unit))), 0, 0⟩),
 (14, ⟨(.st (.pr .str (.pr (.int .u64) .unit))), 0, 0⟩),
 (21, ⟨(.int .i32), 0, 0⟩),
 (25, ⟨(.sl (.st (.pr (.int .i64) (.pr .str (.pr .str (.pr (.int .i64) (.pr (.int .i64) .unit))))))), 33, 56⟩),
 (27, ⟨(.eb 84 (.st (.pr (.int .i64) (.pr (.st (.pr (.int .i64) (.pr (.int .i64) (.pr (.int .i64) (.pr (.int .i64) (.pr .str (.pr (.sl (.st (.pr .str (.pr (.int .i64) .unit)))) .unit))))))) .unit)))), 0, 0⟩),
 (30, ⟨(.sl .str), 9, 16⟩),
 (32, ⟨(.st (.pr (.int .i64) (.pr .str (.pr .str (.pr (.int .i64) (.pr (.int .i64) .unit)))))), 0, 0⟩),
 (33, ⟨(.st (.pr (.int .i64) (.pr .str (.pr .str (.pr (.int .i64) (.pr (.int .i64) .unit)))))), 0, 0⟩),
 (39, ⟨(.sl (.int .i64)), 3, 8⟩),
 (42, ⟨(.sl (.int .u8)), 5, 1⟩),
 (49, ⟨(.st (.pr (.int .i64) (.pr (.int .i64) (.pr (.int .i64) (.pr .str .unit))))), 0, 0⟩),
 (50, ⟨(.st (.pr (.int .i64) (.pr (.int .i64) (.pr (.int .i64) (.pr .str .unit))))), 0, 0⟩),
 (52, ⟨(.int .i64), 0, 0⟩),
 (54, ⟨(.sl (.st (.pr .str (.pr (.int .i64) (.pr (.int .i64) .unit))))), 75, 32⟩),
 (55, ⟨(.st (.pr (.int .i64) (.pr (.int .i64) .unit))), 3, 2⟩),
 (56, ⟨(.st (.pr (.sl (.st (.pr (.int .i64) (.pr .str (.pr .str (.pr (.int .i64) (.pr (.int .i64) .unit))))))) (.pr (.sl (.st (.pr .str (.pr (.int .i64) (.pr (.int .i64) .unit))))) (.pr (.int .i64) (.pr (.st (.pr (.int .i64) (.pr .str (.pr .str (.pr (.int .i64) (.pr (.int .i64) .unit)))))) (.pr (.st (.pr (.int .i64) (.pr (.int .i64) .unit))) (.pr (.int .i64) (.pr (.int .i64) .unit)))))))), 0, 0⟩),
 (57, ⟨(.st (.pr (.sl (.st (.pr (.int .i64) (.pr .str (.pr .str (.pr (.int .i64) (.pr (.int .i64) .unit))))))) (.pr (.sl (.st (.pr .str (.pr (.int .i64) (.pr (.int .i64) .unit))))) (.pr (.int .i64) (.pr (.st (.pr (.int .i64) (.pr .str (.pr .str (.pr (.int .i64) (.pr (.int .i64) .unit)))))) (.pr (.st (.pr (.int .i64) (.pr (.int .i64) .unit))) (.pr (.int .i64) (.pr (.int .i64) .unit)))))))), 0, 0⟩),
 (67, ⟨(.sl (.st (.pr .str (.pr (.int .i64) .unit)))), 104, 24⟩),
 (68, ⟨(.st (.pr (.int .i64) (.pr (.int .i64) (.pr (.int .i64) (.pr (.int .i64) (.pr .str (.pr (.sl (.st (.pr .str (.pr (.int .i64) .unit)))) .unit))))))), 0, 0⟩),
 (69, ⟨(.st (.pr (.int .i64) (.pr (.int .i64) (.pr (.int .i64) (.pr (.int .i64) (.pr .str (.pr (.sl (.st (.pr .str (.pr (.int .i64) .unit)))) .unit))))))), 0, 0⟩),
 (71, ⟨(.sl (.st (.pr (.int .i64) (.pr (.int .i64) (.pr (.int .i64) (.pr (.int .i64) (.pr .str (.pr (.sl (.st (.pr .str (.pr (.int .i64) .unit)))) .unit)))))))), 69, 72⟩),
 (74, ⟨(.st (.pr .str (.pr (.int .i64) (.pr (.int .i64) .unit)))), 0, 0⟩),
 (75, ⟨(.st (.pr .str (.pr (.int .i64) (.pr (.int .i64) .unit)))), 0, 0⟩),
 (81, ⟨(.st (.pr (.int .i64) (.pr (.int .i64) (.pr (.sl (.st (.pr .str (.pr (.int .i64) .unit)))) .unit)))), 0, 0⟩),
 (82, ⟨(.st (.pr (.int .i64) (.pr (.int .i64) (.pr (.sl (.st (.pr .str (.pr (.int .i64) .unit)))) .unit)))), 0, 0⟩),
 (85, ⟨(.st (.pr (.int .i64) (.pr (.st (.pr (.int .i64) (.pr (.int .i64) (.pr (.int .i64) (.pr (.int .i64) (.pr .str (.pr (.sl (.st (.pr .str (.pr (.int .i64) .unit)))) .unit))))))) .unit))), 0, 0⟩),
 (86, ⟨(.st (.pr (.int .i64) (.pr (.st (.pr (.int .i64) (.pr (.int .i64) (.pr (.int .i64) (.pr (.int .i64) (.pr .str (.pr (.sl (.st (.pr .str (.pr (.int .i64) .unit)))) .unit))))))) .unit))), 0, 0⟩),
 (101, ⟨(.int .u64), 0, 0⟩),
 (103, ⟨(.st (.pr .str (.pr (.int .i64) .unit))), 0, 0⟩),
 (104, ⟨(.st (.pr .str (.pr (.int .i64) .unit))), 0, 0⟩),
 (105, ⟨(.st (.pr (.st (.pr .str (.pr (.int .i64) .unit))) (.pr (.eb 84 (.st (.pr (.int .i64) (.pr (.st (.pr (.int .i64) (.pr (.int .i64) (.pr (.int .i64) (.pr (.int .i64) (.pr .str (.pr (.sl (.st (.pr .str (.pr (.int .i64) .unit)))) .unit))))))) .unit)))) .unit))), 0, 0⟩),
 (106, ⟨(.st (.pr (.st (.pr .str (.pr (.int .i64) .unit))) (.pr (.eb 84 (.st (.pr (.int .i64) (.pr (.st (.pr (.int .i64) (.pr (.int .i64) (.pr (.int .i64) (.pr (.int .i64) (.pr .str (.pr (.sl (.st (.pr .str (.pr (.int .i64) .unit)))) .unit))))))) .unit)))) .unit))), 0, 0⟩),
 (108, ⟨(.st (.pr (.int .i64) (.pr (.eb 84 (.st (.pr (.int .i64) (.pr (.st (.pr (.int .i64) (.pr (.int .i64) (.pr (.int .i64) (.pr (.int .i64) (.pr .str (.pr (.sl (.st (.pr .str (.pr (.int .i64) .unit)))) .unit))))))) .unit)))) .unit))), 0, 0⟩),
 (109, ⟨(.st (.pr (.int .i64) (.pr (.eb 84 (.st (.pr (.int .i64) (.pr (.st (.pr (.int .i64) (.pr (.int .i64) (.pr (.int .i64) (.pr (.int .i64) (.pr .str (.pr (.sl (.st (.pr .str (.pr (.int .i64) .unit)))) .unit))))))) .unit)))) .unit))), 0, 0⟩),
 (114, ⟨(.sl (.eb 84 (.st (.pr (.int .i64) (.pr (.st (.pr (.int .i64) (.pr (.int .i64) (.pr (.int .i64) (.pr (.int .i64) (.pr .str (.pr (.sl (.st (.pr .str (.pr (.int .i64) .unit)))) .unit))))))) .unit))))), 27, 16⟩),
 (121, ⟨(.st (.pr (.int .u8) (.pr (.int .u8) .unit))), 0, 0⟩),
 (122, ⟨(.st (.pr (.int .u8) (.pr (.int .u8) .unit))), 0, 0⟩),
 (123, ⟨(.st (.pr (.st (.pr (.int .u8) (.pr (.int .u8) .unit))) (.pr (.st (.pr (.int .u8) (.pr (.int .u8) .unit))) (.pr (.st (.pr (.int .u8) (.pr (.int .u8) .unit))) (.pr (.st (.pr (.int .u8) (.pr (.int .u8) .unit))) (.pr (.st (.pr (.int .u8) (.pr (.int .u8) .unit))) (.pr (.st (.pr (.int .u8) (.pr (.int .u8) .unit))) (.pr (.st (.pr (.int .u8) (.pr (.int .u8) .unit))) (.pr (.st (.pr (.int .u8) (.pr (.int .u8) .unit))) (.pr (.st (.pr (.int .u8) (.pr (.int .u8) .unit))) (.pr (.st (.pr (.int .u8) (.pr (.int .u8) .unit))) (.pr (.st (.pr (.int .u8) (.pr (.int .u8) .unit))) (.pr (.st (.pr (.int .u8) (.pr (.int .u8) .unit))) (.pr (.st (.pr (.int .u8) (.pr (.int .u8) .unit))) (.pr (.st (.pr (.int .u8) (.pr (.int .u8) .unit))) (.pr (.st (.pr (.int .u8) (.pr (.int .u8) .unit))) (.pr (.st (.pr (.int .u8) (.pr (.int .u8) .unit))) .unit))))))))))))))))), 122, 16⟩),
 (124, ⟨(.int .u32), 0, 0⟩),
 (136, ⟨(.int .u8), 0, 0⟩),
 (137, ⟨(.int .u8), 0, 0⟩),
 (139, ⟨(.int .i32), 0, 0⟩),
 (140, ⟨(.int .i32), 0, 0⟩),
 (84, ⟨(.ptr (.st (.pr (.int .i64) (.pr (.st (.pr (.int .i64) (.pr (.int .i64) (.pr (.int .i64) (.pr (.int .i64) (.pr .str (.pr (.sl (.st (.pr .str (.pr (.int .i64) .unit)))) .unit))))))) .unit)))), 0, 0⟩),
 (102, ⟨(.ptr .unit), 0, 0⟩),
 (107, ⟨(.ptr .unit), 0, 0⟩),
 (111, ⟨(.eb 84 (.st (.pr (.int .i64) (.pr (.st (.pr (.int .i64) (.pr (.int .i64) (.pr (.int .i64) (.pr (.int .i64) (.pr .str (.pr (.sl (.st (.pr .str (.pr (.int .i64) .unit)))) .unit))))))) .unit)))), 0, 0⟩),
 (113, ⟨(.eb 84 (.st (.pr (.int .i64) (.pr (.st (.pr (.int .i64) (.pr (.int .i64) (.pr (.int .i64) (.pr (.int .i64) (.pr .str (.pr (.sl (.st (.pr .str (.pr (.int .i64) .unit)))) .unit))))))) .unit)))), 0, 0⟩)]
theorem Tys2_ok : ∀ id i, Go.Lf.look Tys2 id = some i → Go.Lf.TyOk Go.Proofs.Tryd.prog id i := Go.Lf.tysB_ok (by kernel_rfl)
noncomputable def folioref04_LinesCtx : Go.Lf.Ctx := ⟨56, Tys2, [], [2, 3, 46, 55], [], [(2, (.rw 9 .str)), (3, (.rw 9 .str)), (46, (.rw 9 .str)), (55, (.rw 9 .str))]⟩
noncomputable def folioref04_LinesCode : Go.Code := (Go.Proofs.Tryd.f13.body).getD .skip
def folioref04_LinesAnn : Go.Lf.Ann := (.seq .no (.seq .no (.seq .no (.seq (.seq .no (.loop ⟨[0], [], [(5, (.int .i64)), (3, (.rw 9 .str)), (4, (.int .i64))], []⟩ (.one (.ext 0) ⟨[], [], [(3, (.rw 9 .str))], []⟩) (.seq .no (.seq (.join (.more .nrm ⟨[0, 5], [], [(3, (.rw 9 .str)), (4, (.int .i64))], []⟩ (.one (.ext 0) ⟨[], [], [(3, (.rw 9 .str))], []⟩)) (.seq (.seq (.join (.one .nrm ⟨[4, 0, 5], [], [(22, .bool), (3, (.rw 9 .str))], []⟩) .no) .no) (.seq (.seq (.join (.one .nrm ⟨[0, 5, 4], [], [(32, .bool), (3, (.rw 9 .str))], []⟩) .no) .no) (.seq .no (.seq (.join (.one .nrm ⟨[0, 5, 4], [], [(6, (.int .i64)), (3, (.rw 9 .str))], []⟩) (.seq (.join (.one .nrm ⟨[0, 5, 4, 6], [], [(43, .bool), (3, (.rw 9 .str))], []⟩) .no) .no)) .no))))) .no)))) .no))))
noncomputable def folioref04_Lines (a0 : List (UInt8)) : Option (List (List (UInt8))) :=
 (Go.Lf.loopC (σ := (Int) × ((List (List (UInt8))) × (Int))) (κ := List (List (UInt8))) (fun z1 =>
     bif (decide (z1.1 ≤ (((List.length a0) : Nat) : Int))) then ((bif (decide (z1.1 < (((List.length a0) : Nat) : Int))) then ((Go.Lf.idx a0 z1.1)).bind fun r2 =>
         some ((decide (((((UInt8.toNat r2) : Nat) : Int) : Int) ≠ (10 : Int))), z1.2.1)
         else some (false, z1.2.1)).bind fun r3 =>
       bif r3.1 then some (.inl (r3.2, z1.2.2))
       else (bif (decide ((z1.1 : Int) = (((List.length a0) : Nat) : Int))) then some ((decide ((z1.2.2 : Int) = (((List.length a0) : Nat) : Int))), r3.2)
         else some (false, r3.2)).bind fun r4 =>
       bif r4.1 then some (.inr r4.2)
       else ((bif (decide (z1.2.2 < z1.1)) then ((Go.Lf.idx a0 (Go.IntKind.wrap .i64 (z1.1 - (1 : Int))))).bind fun r5 =>
           some ((decide (((((UInt8.toNat r5) : Nat) : Int) : Int) = (13 : Int))), r4.2)
           else some (false, r4.2)).bind fun r6 =>
         bif r6.1 then some ((Go.IntKind.wrap .i64 (z1.1 - (1 : Int))), r6.2)
         else some (z1.1, r6.2)).bind fun r7 =>
       ((Go.Lf.sub a0 z1.2.2 r7.1)).bind fun r8 =>
       ((Go.Lf.app (16 : Nat) r7.2 (r8 :: ([] : List (List (UInt8)))))).bind fun r9 =>
       some (.inl (r9, (Go.IntKind.wrap .i64 (z1.1 + (1 : Int))))) : Option (((List (List (UInt8))) × (Int)) ⊕ (List (List (UInt8))))).bind fun r10 =>
     Go.Lf.onSum r10 (fun a11 =>
     some (.inl ((Go.IntKind.wrap .i64 (z1.1 + (1 : Int))), (a11.1, a11.2)))) (fun b12 =>
     some (.inr b12))
     else some (.inr z1.2.1)) ((0 : Int), (([] : List (List (UInt8))), (0 : Int))) : Option (List (List (UInt8)))).bind fun r13 =>
 some r13
theorem folioref04_Lines_eq (a0 : List (UInt8)) : Go.Lf.fnE folioref04_LinesCtx folioref04_LinesCode folioref04_LinesAnn [.val .str] [(.rw 9 .str)] [.tmp 2] (a0) = folioref04_Lines a0 := by kernel_rfl
noncomputable def folioref04_LinesEnt : Nat × Go.Lf.Entry := (13, ⟨[.val .str], [(.rw 9 .str)], fun z => folioref04_Lines z⟩)
theorem folioref04_Lines_ok : Go.Lf.EntryOk Go.Proofs.Tryd.prog GG 13 folioref04_LinesEnt.2 :=
  Go.Lf.fn_ok (c := folioref04_LinesCtx) (code := folioref04_LinesCode) (an := folioref04_LinesAnn) (slots := [.tmp 2]) (fn := Go.Proofs.Tryd.f13) (by kernel_rfl) ⟨Tys2_ok, Go.Lf.FnsOk.look .nil⟩ (by kernel_rfl) (by kernel_rfl) (by kernel_rfl) (by kernel_rfl) (by kernel_rfl) (Nat.le_of_ble_eq_true rfl) (by simp [Go.Lf.Ty.top]) (by simp [Go.Lf.Ty.top]) fun z r h => (folioref04_Lines_eq z).trans h
noncomputable def foliolaw04_MarkPlacesCtx : Go.Lf.Ctx := ⟨114, Tys2, [foliolaw04_awakeEnt, mark_LexEnt, folioref04_LinesEnt], [], [], []⟩
noncomputable def foliolaw04_MarkPlacesCode : Go.Code := (Go.Proofs.Tryd.f4.body).getD .skip
def foliolaw04_MarkPlacesAnn : Go.Lf.Ann := (.seq .no (.seq .no (.seq .no (.seq .no (.seq .no (.seq (.seq .no (.loop ⟨[3, 5], [], [(6, (.int .i64))], []⟩ (.more (.ext 0) ⟨[], [], [], []⟩ (.one .ret ⟨[], [], [(2, .bool)], []⟩)) (.seq .no (.seq (.seq (.seq (.join (.one .nrm ⟨[3, 5, 6], [], [(69, .bool)], []⟩) (.draw 43)) .no) (.seq (.join (.one .nrm ⟨[3, 5, 6], [], [(113, .bool)], []⟩) (.draw 44)) .no)) .no)))) .no))))))
noncomputable def foliolaw04_MarkPlaces (a0 : List (UInt8)) : Option (Bool) :=
 (Go.Fn.foliolaw04_awake).bind fun r1 =>
 bif (!r1) then some false
 else ((Go.Fn.mark_Lex a0)).bind fun r2 =>
 bif (Option.isSome r2.2) then some (decide (((((List.length r2.1) : Nat) : Int) : Int) = (0 : Int)))
 else ((Go.Fn.folioref04_Lines a0)).bind fun r3 =>
 (Go.Lf.loopC (σ := Int) (κ := (Unit) ⊕ (Bool)) (fun z4 =>
     bif (decide (z4 < (((List.length r2.1) : Nat) : Int))) then (((Go.Lf.idx r2.1 z4)).bind fun r5 =>
       bif (!(decide (r5.2.2.2.1 < (1 : Int)))) then ((Go.Lf.idx r2.1 z4)).bind fun r6 =>
       bif (!(decide ((((List.length r3) : Nat) : Int) < r6.2.2.2.1))) then ((Go.Lf.idx r2.1 z4)).bind fun r7 =>
       bif (!(decide (r7.2.2.2.2.1 < (1 : Int)))) then ((Go.Lf.idx r2.1 z4)).bind fun r8 =>
       ((Go.Lf.idx r2.1 z4)).bind fun r9 =>
       ((Go.Lf.idx r3 (Go.IntKind.wrap .i64 (r9.2.2.2.1 - (1 : Int))))).bind fun r10 =>
       some (decide ((Go.IntKind.wrap .i64 ((((List.length r10) : Nat) : Int) + (1 : Int))) < r8.2.2.2.2.1))
       else some true
       else some true
       else some true).bind fun r11 =>
     bif r11 then some (.inr (.inr false))
     else (bif (decide ((0 : Int) < z4)) then ((Go.Lf.idx r2.1 z4)).bind fun r12 =>
       ((Go.Lf.idx r2.1 (Go.IntKind.wrap .i64 (z4 - (1 : Int))))).bind fun r13 =>
       bif (!(decide (r12.2.2.2.1 < r13.2.2.2.1))) then ((Go.Lf.idx r2.1 z4)).bind fun r14 =>
       ((Go.Lf.idx r2.1 (Go.IntKind.wrap .i64 (z4 - (1 : Int))))).bind fun r15 =>
       bif (decide ((r14.2.2.2.1 : Int) = r15.2.2.2.1)) then ((Go.Lf.idx r2.1 z4)).bind fun r16 =>
       ((Go.Lf.idx r2.1 (Go.IntKind.wrap .i64 (z4 - (1 : Int))))).bind fun r17 =>
       some (decide (r16.2.2.2.2.1 ≤ r17.2.2.2.2.1))
       else some false
       else some true
       else some false).bind fun r18 =>
     bif r18 then some (.inr (.inr false))
     else some (.inl (Go.IntKind.wrap .i64 (z4 + (1 : Int))))
     else some (.inr (.inl ()))) (0 : Int) : Option ((Unit) ⊕ (Bool))).bind fun r19 =>
 Go.Lf.onSum r19 (fun a20 =>
 some true) (fun b21 =>
 some b21)
theorem foliolaw04_MarkPlaces_eq (a0 : List (UInt8)) : Go.Lf.fnE foliolaw04_MarkPlacesCtx foliolaw04_MarkPlacesCode foliolaw04_MarkPlacesAnn [.val .str] [.bool] [.tmp 2] (a0) = foliolaw04_MarkPlaces a0 := by kernel_rfl
noncomputable def foliolaw04_MarkPlacesEnt : Nat × Go.Lf.Entry := (4, ⟨[.val .str], [.bool], fun z => foliolaw04_MarkPlaces z⟩)
theorem foliolaw04_MarkPlaces_ok : Go.Lf.EntryOk Go.Proofs.Tryd.prog GG 4 foliolaw04_MarkPlacesEnt.2 :=
  Go.Lf.fn_ok (c := foliolaw04_MarkPlacesCtx) (code := foliolaw04_MarkPlacesCode) (an := foliolaw04_MarkPlacesAnn) (slots := [.tmp 2]) (fn := Go.Proofs.Tryd.f4) (by kernel_rfl) ⟨Tys2_ok, Go.Lf.FnsOk.look (.con foliolaw04_awake_ok (.con mark_Lex_ok (.con folioref04_Lines_ok .nil)))⟩ (by kernel_rfl) (by kernel_rfl) (by kernel_rfl) (by kernel_rfl) (by kernel_rfl) (Nat.le_of_ble_eq_true rfl) (by simp [Go.Lf.Ty.top]) (by simp [Go.Lf.Ty.top]) fun z r h => (foliolaw04_MarkPlaces_eq z).trans h
noncomputable def foliolaw04_movedCtx : Go.Lf.Ctx := ⟨34, Tys2, [], [6, 7, 29, 33], [], [(6, (.rw 33 (.st (.pr (.int .i64) (.pr .str (.pr .str (.pr (.int .i64) (.pr (.int .i64) .unit)))))))), (7, (.rw 33 (.st (.pr (.int .i64) (.pr .str (.pr .str (.pr (.int .i64) (.pr (.int .i64) .unit)))))))), (29, (.rw 33 (.st (.pr (.int .i64) (.pr .str (.pr .str (.pr (.int .i64) (.pr (.int .i64) .unit)))))))), (33, (.rw 33 (.st (.pr (.int .i64) (.pr .str (.pr .str (.pr (.int .i64) (.pr (.int .i64) .unit))))))))]⟩
noncomputable def foliolaw04_movedCode : Go.Code := (Go.Proofs.Tryd.f14.body).getD .skip
def foliolaw04_movedAnn : Go.Lf.Ann := (.seq .no (.seq .no (.seq (.seq .no (.loop ⟨[1, 2, 0], [], [(8, (.int .i64)), (7, (.rw 33 (.st (.pr (.int .i64) (.pr .str (.pr .str (.pr (.int .i64) (.pr (.int .i64) .unit))))))))], []⟩ (.one (.ext 0) ⟨[], [], [(7, (.rw 33 (.st (.pr (.int .i64) (.pr .str (.pr .str (.pr (.int .i64) (.pr (.int .i64) .unit))))))))], []⟩) (.seq .no (.seq (.seq .no (.seq (.join (.one .nrm ⟨[1, 2, 0, 8], [(9, 9, [], 0)], [(7, (.rw 33 (.st (.pr (.int .i64) (.pr .str (.pr .str (.pr (.int .i64) (.pr (.int .i64) .unit))))))))], [(9, 33, (.st (.pr (.int .i64) (.pr .str (.pr .str (.pr (.int .i64) (.pr (.int .i64) .unit)))))))]⟩) .no) .no)) .no)))) .no)))
noncomputable def foliolaw04_moved (a0 : List ((Int) × ((List (UInt8)) × ((List (UInt8)) × ((Int) × ((Int) × (Unit))))))) (a1 : Int) (a2 : Int) : Option (List ((Int) × ((List (UInt8)) × ((List (UInt8)) × ((Int) × ((Int) × (Unit))))))) :=
 (Go.Lf.loopC (σ := (Int) × (List ((Int) × ((List (UInt8)) × ((List (UInt8)) × ((Int) × ((Int) × (Unit)))))))) (κ := List ((Int) × ((List (UInt8)) × ((List (UInt8)) × ((Int) × ((Int) × (Unit))))))) (fun z1 =>
     bif (decide (z1.1 < (((List.length a0) : Nat) : Int))) then ((Go.Lf.idx a0 z1.1)).bind fun r2 =>
     (bif (decide (a2 ≤ r2.2.2.2.1)) then some (z1.2, (r2.1, (r2.2.1, (r2.2.2.1, ((Go.IntKind.wrap .i64 (r2.2.2.2.1 + a1)), r2.2.2.2.2)))))
       else some (z1.2, r2)).bind fun r3 =>
     ((Go.Lf.app (56 : Nat) r3.1 (r3.2 :: ([] : List ((Int) × ((List (UInt8)) × ((List (UInt8)) × ((Int) × ((Int) × (Unit)))))))))).bind fun r4 =>
     some (.inl ((Go.IntKind.wrap .i64 (z1.1 + (1 : Int))), r4))
     else some (.inr z1.2)) ((0 : Int), ([] : List ((Int) × ((List (UInt8)) × ((List (UInt8)) × ((Int) × ((Int) × (Unit)))))))) : Option (List ((Int) × ((List (UInt8)) × ((List (UInt8)) × ((Int) × ((Int) × (Unit)))))))).bind fun r5 =>
 some r5
theorem foliolaw04_moved_eq (a0 : List ((Int) × ((List (UInt8)) × ((List (UInt8)) × ((Int) × ((Int) × (Unit))))))) (a1 : Int) (a2 : Int) : Go.Lf.fnE foliolaw04_movedCtx foliolaw04_movedCode foliolaw04_movedAnn [.val (.sl (.st (.pr (.int .i64) (.pr .str (.pr .str (.pr (.int .i64) (.pr (.int .i64) .unit))))))), .val (.int .i64), .val (.int .i64)] [(.rw 33 (.st (.pr (.int .i64) (.pr .str (.pr .str (.pr (.int .i64) (.pr (.int .i64) .unit)))))))] [.tmp 6] (a0, a1, a2) = foliolaw04_moved a0 a1 a2 := by kernel_rfl
noncomputable def foliolaw04_movedEnt : Nat × Go.Lf.Entry := (14, ⟨[.val (.sl (.st (.pr (.int .i64) (.pr .str (.pr .str (.pr (.int .i64) (.pr (.int .i64) .unit))))))), .val (.int .i64), .val (.int .i64)], [(.rw 33 (.st (.pr (.int .i64) (.pr .str (.pr .str (.pr (.int .i64) (.pr (.int .i64) .unit)))))))], fun z => foliolaw04_moved z.1 z.2.1 z.2.2⟩)
theorem foliolaw04_moved_ok : Go.Lf.EntryOk Go.Proofs.Tryd.prog GG 14 foliolaw04_movedEnt.2 :=
  Go.Lf.fn_ok (c := foliolaw04_movedCtx) (code := foliolaw04_movedCode) (an := foliolaw04_movedAnn) (slots := [.tmp 6]) (fn := Go.Proofs.Tryd.f14) (by kernel_rfl) ⟨Tys2_ok, Go.Lf.FnsOk.look .nil⟩ (by kernel_rfl) (by kernel_rfl) (by kernel_rfl) (by kernel_rfl) (by kernel_rfl) (Nat.le_of_ble_eq_true rfl) (by simp [Go.Lf.Ty.top]) (by simp [Go.Lf.Ty.top]) fun z r h => (foliolaw04_moved_eq z.1 z.2.1 z.2.2).trans h
noncomputable def folioref04_SameCtx : Go.Lf.Ctx := ⟨80, Tys2, [], [], [], []⟩
noncomputable def folioref04_SameCode : Go.Code := (Go.Proofs.Tryd.f15.body).getD .skip
def folioref04_SameAnn : Go.Lf.Ann := (.seq .no (.seq .no (.seq (.seq .no (.loop ⟨[1, 0], [], [(5, (.int .i64))], []⟩ (.more (.ext 0) ⟨[], [], [], []⟩ (.one .ret ⟨[], [], [(4, .bool)], []⟩)) (.seq .no (.seq (.seq (.join (.one .nrm ⟨[1, 0, 5], [], [(79, .bool)], []⟩) (.draw 63)) .no) .no)))) .no)))
noncomputable def folioref04_Same (a0 : List ((Int) × ((List (UInt8)) × ((List (UInt8)) × ((Int) × ((Int) × (Unit))))))) (a1 : List ((Int) × ((List (UInt8)) × ((List (UInt8)) × ((Int) × ((Int) × (Unit))))))) : Option (Bool) :=
 bif (decide (((((List.length a0) : Nat) : Int) : Int) ≠ (((List.length a1) : Nat) : Int))) then some false
 else (Go.Lf.loopC (σ := Int) (κ := (Unit) ⊕ (Bool)) (fun z1 =>
     bif (decide (z1 < (((List.length a0) : Nat) : Int))) then (((Go.Lf.idx a0 z1)).bind fun r2 =>
       ((Go.Lf.idx a1 z1)).bind fun r3 =>
       bif (!(decide ((r2.1 : Int) ≠ r3.1))) then ((Go.Lf.idx a0 z1)).bind fun r4 =>
       ((Go.Lf.idx a1 z1)).bind fun r5 =>
       bif (!(decide ((r4.2.1 : List (UInt8)) ≠ r5.2.1))) then ((Go.Lf.idx a0 z1)).bind fun r6 =>
       ((Go.Lf.idx a1 z1)).bind fun r7 =>
       bif (!(decide ((r6.2.2.1 : List (UInt8)) ≠ r7.2.2.1))) then ((Go.Lf.idx a0 z1)).bind fun r8 =>
       ((Go.Lf.idx a1 z1)).bind fun r9 =>
       bif (!(decide ((r8.2.2.2.1 : Int) ≠ r9.2.2.2.1))) then ((Go.Lf.idx a0 z1)).bind fun r10 =>
       ((Go.Lf.idx a1 z1)).bind fun r11 =>
       some (decide ((r10.2.2.2.2.1 : Int) ≠ r11.2.2.2.2.1))
       else some true
       else some true
       else some true
       else some true).bind fun r12 =>
     bif r12 then some (.inr (.inr false))
     else some (.inl (Go.IntKind.wrap .i64 (z1 + (1 : Int))))
     else some (.inr (.inl ()))) (0 : Int) : Option ((Unit) ⊕ (Bool))).bind fun r13 =>
 Go.Lf.onSum r13 (fun a14 =>
 some true) (fun b15 =>
 some b15)
theorem folioref04_Same_eq (a0 : List ((Int) × ((List (UInt8)) × ((List (UInt8)) × ((Int) × ((Int) × (Unit))))))) (a1 : List ((Int) × ((List (UInt8)) × ((List (UInt8)) × ((Int) × ((Int) × (Unit))))))) : Go.Lf.fnE folioref04_SameCtx folioref04_SameCode folioref04_SameAnn [.val (.sl (.st (.pr (.int .i64) (.pr .str (.pr .str (.pr (.int .i64) (.pr (.int .i64) .unit))))))), .val (.sl (.st (.pr (.int .i64) (.pr .str (.pr .str (.pr (.int .i64) (.pr (.int .i64) .unit)))))))] [.bool] [.tmp 4] (a0, a1) = folioref04_Same a0 a1 := by kernel_rfl
noncomputable def folioref04_SameEnt : Nat × Go.Lf.Entry := (15, ⟨[.val (.sl (.st (.pr (.int .i64) (.pr .str (.pr .str (.pr (.int .i64) (.pr (.int .i64) .unit))))))), .val (.sl (.st (.pr (.int .i64) (.pr .str (.pr .str (.pr (.int .i64) (.pr (.int .i64) .unit)))))))], [.bool], fun z => folioref04_Same z.1 z.2⟩)
theorem folioref04_Same_ok : Go.Lf.EntryOk Go.Proofs.Tryd.prog GG 15 folioref04_SameEnt.2 :=
  Go.Lf.fn_ok (c := folioref04_SameCtx) (code := folioref04_SameCode) (an := folioref04_SameAnn) (slots := [.tmp 4]) (fn := Go.Proofs.Tryd.f15) (by kernel_rfl) ⟨Tys2_ok, Go.Lf.FnsOk.look .nil⟩ (by kernel_rfl) (by kernel_rfl) (by kernel_rfl) (by kernel_rfl) (by kernel_rfl) (Nat.le_of_ble_eq_true rfl) (by simp [Go.Lf.Ty.top]) (by simp [Go.Lf.Ty.top]) fun z r h => (folioref04_Same_eq z.1 z.2).trans h
noncomputable def foliolaw04_MarkPartsCtx : Go.Lf.Ctx := ⟨95, Tys2, [foliolaw04_awakeEnt, mark_LexEnt, folioref04_LinesEnt, foliolaw04_movedEnt, folioref04_SameEnt], [10, 74], [], [(10, (.rw 33 (.st (.pr (.int .i64) (.pr .str (.pr .str (.pr (.int .i64) (.pr (.int .i64) .unit)))))))), (74, (.rw 33 (.st (.pr (.int .i64) (.pr .str (.pr .str (.pr (.int .i64) (.pr (.int .i64) .unit))))))))]⟩
noncomputable def foliolaw04_MarkPartsCode : Go.Code := (Go.Proofs.Tryd.f5.body).getD .skip
def foliolaw04_MarkPartsAnn : Go.Lf.Ann := (.seq .no (.seq .no (.seq .no (.seq .no (.seq (.seq (.join (.one .nrm ⟨[1, 0, 7, 5], [], [(62, .bool)], []⟩) .no) .no) (.seq .no (.seq .no (.seq .no (.seq .no (.seq (.join (.one .nrm ⟨[], [], [(4, .bool)], []⟩) .no) .no))))))))))
noncomputable def foliolaw04_MarkParts (a0 : List (UInt8)) (a1 : List (UInt8)) : Option (Bool) :=
 (Go.Fn.foliolaw04_awake).bind fun r1 =>
 bif (!r1) then some false
 else ((Go.Fn.mark_Lex a0)).bind fun r2 =>
 ((Go.Fn.mark_Lex a1)).bind fun r3 =>
 (bif (!(Option.isSome r2.2)) then bif (!(Option.isSome r3.2)) then bif (!(decide ((a0 : List (UInt8)) = ([] : List (UInt8))))) then ((Go.Lf.idx a0 (Go.IntKind.wrap .i64 ((((List.length a0) : Nat) : Int) - (1 : Int))))).bind fun r4 =>
   bif (!(decide (((((UInt8.toNat r4) : Nat) : Int) : Int) = (10 : Int)))) then ((Go.Lf.idx a0 (Go.IntKind.wrap .i64 ((((List.length a0) : Nat) : Int) - (1 : Int))))).bind fun r5 =>
   bif (!(decide (((((UInt8.toNat r5) : Nat) : Int) : Int) = (13 : Int)))) then bif (!(decide ((65534 : Int) < (((List.length a0) : Nat) : Int)))) then some (decide ((Go.IntKind.wrap .i64 ((65534 : Int) - (((List.length a0) : Nat) : Int))) < (((List.length a1) : Nat) : Int)))
   else some true
   else some true
   else some true
   else some true
   else some true
   else some true).bind fun r6 =>
 bif r6 then some true
 else ((Go.Fn.folioref04_Lines a0)).bind fun r7 =>
 ((Go.Lf.app (56 : Nat) ([] : List ((Int) × ((List (UInt8)) × ((List (UInt8)) × ((Int) × ((Int) × (Unit))))))) r2.1)).bind fun r8 =>
 ((Go.Lf.app (56 : Nat) r8 (((2 : Int), (([] : List (UInt8)), (([] : List (UInt8)), ((Go.IntKind.wrap .i64 ((((List.length r7) : Nat) : Int) + (1 : Int))), ((1 : Int), ()))))) :: ([] : List ((Int) × ((List (UInt8)) × ((List (UInt8)) × ((Int) × ((Int) × (Unit)))))))))).bind fun r9 =>
 ((Go.Fn.foliolaw04_moved r3.1 (Go.IntKind.wrap .i64 ((((List.length r7) : Nat) : Int) + (1 : Int))) (0 : Int))).bind fun r10 =>
 ((Go.Lf.app (56 : Nat) r9 r10)).bind fun r11 =>
 ((Go.Lf.cat a0 ((10 : UInt8) :: ((10 : UInt8) :: ([] : List (UInt8)))))).bind fun r12 =>
 ((Go.Lf.cat r12 a1)).bind fun r13 =>
 ((Go.Fn.mark_Lex r13)).bind fun r14 =>
 (bif (Option.isNone r14.2) then ((Go.Fn.folioref04_Same r14.1 r11)).bind fun r15 =>
   some r15
   else some false).bind fun r16 =>
 some r16
theorem foliolaw04_MarkParts_eq (a0 : List (UInt8)) (a1 : List (UInt8)) : Go.Lf.fnE foliolaw04_MarkPartsCtx foliolaw04_MarkPartsCode foliolaw04_MarkPartsAnn [.val .str, .val .str] [.bool] [.tmp 4] (a0, a1) = foliolaw04_MarkParts a0 a1 := by kernel_rfl
noncomputable def foliolaw04_MarkPartsEnt : Nat × Go.Lf.Entry := (5, ⟨[.val .str, .val .str], [.bool], fun z => foliolaw04_MarkParts z.1 z.2⟩)
theorem foliolaw04_MarkParts_ok : Go.Lf.EntryOk Go.Proofs.Tryd.prog GG 5 foliolaw04_MarkPartsEnt.2 :=
  Go.Lf.fn_ok (c := foliolaw04_MarkPartsCtx) (code := foliolaw04_MarkPartsCode) (an := foliolaw04_MarkPartsAnn) (slots := [.tmp 4]) (fn := Go.Proofs.Tryd.f5) (by kernel_rfl) ⟨Tys2_ok, Go.Lf.FnsOk.look (.con foliolaw04_awake_ok (.con mark_Lex_ok (.con folioref04_Lines_ok (.con foliolaw04_moved_ok (.con folioref04_Same_ok .nil)))))⟩ (by kernel_rfl) (by kernel_rfl) (by kernel_rfl) (by kernel_rfl) (by kernel_rfl) (Nat.le_of_ble_eq_true rfl) (by simp [Go.Lf.Ty.top]) (by simp [Go.Lf.Ty.top]) fun z r h => (foliolaw04_MarkParts_eq z.1 z.2).trans h
noncomputable def foliolaw04_MarkCommentsCtx : Go.Lf.Ctx := ⟨107, Tys2, [foliolaw04_awakeEnt, mark_LexEnt, foliolaw04_movedEnt, folioref04_SameEnt, text_PlainEnt], [11, 60], [], [(11, (.rw 3 (.int .i64))), (60, (.rw 3 (.int .i64)))]⟩
noncomputable def foliolaw04_MarkCommentsCode : Go.Code := (Go.Proofs.Tryd.f6.body).getD .skip
def foliolaw04_MarkCommentsAnn : Go.Lf.Ann := (.seq .no (.seq .no (.seq .no (.seq .no (.seq (.seq .no (.seq (.join (.one .nrm ⟨[0, 7, 1, 2], [], [(48, .bool)], []⟩) .no) .no)) (.seq .no (.seq (.seq .no (.loop ⟨[0, 7, 1, 2], [], [(12, (.int .i64)), (11, (.rw 3 (.int .i64)))], []⟩ (.one (.ext 0) ⟨[7, 0, 1, 2], [], [(11, (.rw 3 (.int .i64)))], []⟩) (.seq .no (.seq (.join (.one .nrm ⟨[0, 7, 1, 2, 12], [], [(11, (.rw 3 (.int .i64)))], []⟩) .no) .no)))) (.seq .no (.seq (.draw 18) (.seq .no (.seq (.join (.one .nrm ⟨[], [], [(6, .bool)], []⟩) .no) .no)))))))))))
noncomputable def foliolaw04_MarkComments (a0 : List (UInt8)) (a1 : List (UInt8)) (a2 : Int) : Option (Bool) :=
 (Go.Fn.foliolaw04_awake).bind fun r1 =>
 bif (!r1) then some false
 else ((Go.Fn.mark_Lex a0)).bind fun r2 =>
 bif (Option.isSome r2.2) then some (decide (((((List.length r2.1) : Nat) : Int) : Int) = (0 : Int)))
 else ((Go.Fn.text_Plain a1)).bind fun r3 =>
 (bif (!(!r3.2)) then bif (!(decide ((4095 : Int) < (((List.length a1) : Nat) : Int)))) then some (decide ((Go.IntKind.wrap .i64 ((Go.IntKind.wrap .i64 ((65536 : Int) - (((List.length a1) : Nat) : Int))) - (2 : Int))) < (((List.length a0) : Nat) : Int)))
   else some true
   else some true).bind fun r4 =>
 bif r4 then some true
 else (Go.Lf.loopC (σ := (Int) × (List (Int))) (κ := List (Int)) (fun z5 =>
     bif (decide (z5.1 < (((List.length a0) : Nat) : Int))) then (((Go.Lf.idx a0 z5.1)).bind fun r6 =>
       bif (decide (((((UInt8.toNat r6) : Nat) : Int) : Int) = (10 : Int))) then ((Go.Lf.app (8 : Nat) z5.2 ((Go.IntKind.wrap .i64 (z5.1 + (1 : Int))) :: ([] : List (Int))))).bind fun r7 =>
       some r7
       else some z5.2).bind fun r8 =>
     some (.inl ((Go.IntKind.wrap .i64 (z5.1 + (1 : Int))), r8))
     else some (.inr z5.2)) ((0 : Int), ((0 : Int) :: ([] : List (Int)))) : Option (List (Int))).bind fun r9 =>
 ((Go.Lf.nz (((List.length r9) : Nat) : Int) (Int.tmod a2 (((List.length r9) : Nat) : Int)))).bind fun r10 =>
 ((Go.Lf.nz (((List.length r9) : Nat) : Int) (Int.tmod (Go.IntKind.wrap .i64 (r10 + (((List.length r9) : Nat) : Int))) (((List.length r9) : Nat) : Int)))).bind fun r11 =>
 ((Go.Lf.idx r9 r11)).bind fun r12 =>
 ((Go.Lf.sub a0 (0 : Int) r12)).bind fun r13 =>
 ((Go.Lf.cat r13 ((35 : UInt8) :: ([] : List (UInt8))))).bind fun r14 =>
 ((Go.Lf.cat r14 a1)).bind fun r15 =>
 ((Go.Lf.cat r15 ((10 : UInt8) :: ([] : List (UInt8))))).bind fun r16 =>
 ((Go.Lf.idx r9 r11)).bind fun r17 =>
 ((Go.Lf.sub a0 r17 (((List.length a0) : Nat) : Int))).bind fun r18 =>
 ((Go.Lf.cat r16 r18)).bind fun r19 =>
 ((Go.Fn.mark_Lex r19)).bind fun r20 =>
 (bif (Option.isNone r20.2) then ((Go.Fn.foliolaw04_moved r2.1 (1 : Int) (Go.IntKind.wrap .i64 (r11 + (1 : Int))))).bind fun r21 =>
   ((Go.Fn.folioref04_Same r20.1 r21)).bind fun r22 =>
   some r22
   else some false).bind fun r23 =>
 some r23
theorem foliolaw04_MarkComments_eq (a0 : List (UInt8)) (a1 : List (UInt8)) (a2 : Int) : Go.Lf.fnE foliolaw04_MarkCommentsCtx foliolaw04_MarkCommentsCode foliolaw04_MarkCommentsAnn [.val .str, .val .str, .val (.int .i64)] [.bool] [.tmp 6] (a0, a1, a2) = foliolaw04_MarkComments a0 a1 a2 := by kernel_rfl
noncomputable def foliolaw04_MarkCommentsEnt : Nat × Go.Lf.Entry := (6, ⟨[.val .str, .val .str, .val (.int .i64)], [.bool], fun z => foliolaw04_MarkComments z.1 z.2.1 z.2.2⟩)
theorem foliolaw04_MarkComments_ok : Go.Lf.EntryOk Go.Proofs.Tryd.prog GG 6 foliolaw04_MarkCommentsEnt.2 :=
  Go.Lf.fn_ok (c := foliolaw04_MarkCommentsCtx) (code := foliolaw04_MarkCommentsCode) (an := foliolaw04_MarkCommentsAnn) (slots := [.tmp 6]) (fn := Go.Proofs.Tryd.f6) (by kernel_rfl) ⟨Tys2_ok, Go.Lf.FnsOk.look (.con foliolaw04_awake_ok (.con mark_Lex_ok (.con foliolaw04_moved_ok (.con folioref04_Same_ok (.con text_Plain_ok .nil)))))⟩ (by kernel_rfl) (by kernel_rfl) (by kernel_rfl) (by kernel_rfl) (by kernel_rfl) (Nat.le_of_ble_eq_true rfl) (by simp [Go.Lf.Ty.top]) (by simp [Go.Lf.Ty.top]) fun z r h => (foliolaw04_MarkComments_eq z.1 z.2.1 z.2.2).trans h
noncomputable def foliolaw04_MarkBracesCtx : Go.Lf.Ctx := ⟨160, Tys2, [foliolaw04_awakeEnt, mark_LexEnt, strings_ContainsEnt], [], [], []⟩
noncomputable def foliolaw04_MarkBracesCode : Go.Code := (Go.Proofs.Tryd.f7.body).getD .skip
def foliolaw04_MarkBracesAnn : Go.Lf.Ann := (.seq .no (.seq .no (.seq .no (.seq .no (.seq .no (.seq (.seq .no (.loop ⟨[3], [], [(6, (.int .i64)), (5, (.int .i64))], []⟩ (.more (.ext 0) ⟨[], [], [(5, (.int .i64))], []⟩ (.one .ret ⟨[], [], [(2, .bool)], []⟩)) (.seq .no (.seq (.seq (.join (.one .nrm ⟨[5, 3, 6], [], [(7, .bool)], []⟩) .no) (.seq (.join (.one .nrm ⟨[5, 3, 6, 7], [], [(8, .bool)], []⟩) .no) (.seq (.join (.more .ret ⟨[], [], [(2, .bool)], []⟩ (.one .nrm ⟨[3, 6], [], [(5, (.int .i64))], []⟩)) (.seq .no (.seq (.join (.one .nrm ⟨[5, 3, 6, 7, 8, 74], [], [(75, .bool)], []⟩) .no) (.cnd .no (.seq .no (.cnd .no (.seq .no (.cnd .no (.seq .no (.cnd .no (.seq .no (.cnd (.seq (.join (.one .nrm ⟨[5, 3, 6], [], [(151, .bool)], []⟩) (.draw 58)) .no) .no)))))))))))) (.seq (.join (.one .nrm ⟨[5, 3, 6], [], [(157, .bool)], []⟩) .no) .no)))) .no)))) .no))))))
noncomputable def foliolaw04_MarkBraces (a0 : List (UInt8)) : Option (Bool) :=
 (Go.Fn.foliolaw04_awake).bind fun r1 =>
 bif (!r1) then some false
 else ((Go.Fn.mark_Lex a0)).bind fun r2 =>
 bif (Option.isSome r2.2) then some (decide (((((List.length r2.1) : Nat) : Int) : Int) = (0 : Int)))
 else (Go.Lf.loopC (σ := (Int) × (Int)) (κ := (Int) ⊕ (Bool)) (fun z3 =>
     bif (decide (z3.1 < (((List.length r2.1) : Nat) : Int))) then (bif (!(decide ((z3.1 : Int) = (0 : Int)))) then ((Go.Lf.idx r2.1 (Go.IntKind.wrap .i64 (z3.1 - (1 : Int))))).bind fun r4 =>
       bif (!(decide ((r4.1 : Int) = (2 : Int)))) then ((Go.Lf.idx r2.1 (Go.IntKind.wrap .i64 (z3.1 - (1 : Int))))).bind fun r5 =>
       some (decide ((r5.1 : Int) = (1 : Int)))
       else some true
       else some true).bind fun r6 =>
     (bif (!(decide ((z3.1 : Int) = (Go.IntKind.wrap .i64 ((((List.length r2.1) : Nat) : Int) - (1 : Int)))))) then ((Go.Lf.idx r2.1 (Go.IntKind.wrap .i64 (z3.1 + (1 : Int))))).bind fun r7 =>
       bif (!(decide ((r7.1 : Int) = (2 : Int)))) then ((Go.Lf.idx r2.1 (Go.IntKind.wrap .i64 (z3.1 + (1 : Int))))).bind fun r8 =>
       some (decide ((r8.1 : Int) = (1 : Int)))
       else some true
       else some true).bind fun r9 =>
     (((Go.Lf.idx r2.1 z3.1)).bind fun r10 =>
       (bif (decide ((r10.1 : Int) = (1 : Int))) then some (decide ((r10.1 : Int) = (1 : Int)))
         else some (decide ((r10.1 : Int) = (2 : Int)))).bind fun r11 =>
       bif r11 then bif (decide ((z3.2 : Int) ≠ (0 : Int))) then some (.inl false)
       else some (.inr z3.2)
       else bif (decide ((r10.1 : Int) = (3 : Int))) then some (.inr (Go.IntKind.wrap .i64 (z3.2 + (1 : Int))))
       else bif (decide ((r10.1 : Int) = (4 : Int))) then bif (decide ((z3.2 : Int) = (0 : Int))) then some (.inl false)
       else some (.inr z3.2)
       else bif (decide ((r10.1 : Int) = (5 : Int))) then some (.inr (Go.IntKind.wrap .i64 (z3.2 - (1 : Int))))
       else bif (decide ((r10.1 : Int) = (6 : Int))) then (((Go.Lf.idx r2.1 z3.1)).bind fun r12 =>
         bif (!(decide ((r12.2.2.1 : List (UInt8)) = ([] : List (UInt8))))) then ((Go.Lf.idx r2.1 z3.1)).bind fun r13 =>
         ((Go.Fn.strings_Contains r13.2.2.1 ((32 : UInt8) :: ((32 : UInt8) :: ([] : List (UInt8)))))).bind fun r14 =>
         bif (!r14) then bif r6 then ((Go.Lf.idx r2.1 z3.1)).bind fun r15 =>
         ((Go.Lf.idx r15.2.2.1 (0 : Int))).bind fun r16 =>
         bif (!(decide (((((UInt8.toNat r16) : Nat) : Int) : Int) = (32 : Int)))) then bif r9 then ((Go.Lf.idx r2.1 z3.1)).bind fun r17 =>
         ((Go.Lf.idx r2.1 z3.1)).bind fun r18 =>
         ((Go.Lf.idx r17.2.2.1 (Go.IntKind.wrap .i64 ((((List.length r18.2.2.1) : Nat) : Int) - (1 : Int))))).bind fun r19 =>
         bif (!(decide (((((UInt8.toNat r19) : Nat) : Int) : Int) = (32 : Int)))) then bif (!r6) then ((Go.Lf.idx r2.1 (Go.IntKind.wrap .i64 (z3.1 - (1 : Int))))).bind fun r20 =>
         some (decide ((r20.1 : Int) = (6 : Int)))
         else some false
         else some true
         else bif (!r6) then ((Go.Lf.idx r2.1 (Go.IntKind.wrap .i64 (z3.1 - (1 : Int))))).bind fun r21 =>
         some (decide ((r21.1 : Int) = (6 : Int)))
         else some false
         else some true
         else bif r9 then ((Go.Lf.idx r2.1 z3.1)).bind fun r22 =>
         ((Go.Lf.idx r2.1 z3.1)).bind fun r23 =>
         ((Go.Lf.idx r22.2.2.1 (Go.IntKind.wrap .i64 ((((List.length r23.2.2.1) : Nat) : Int) - (1 : Int))))).bind fun r24 =>
         bif (!(decide (((((UInt8.toNat r24) : Nat) : Int) : Int) = (32 : Int)))) then bif (!r6) then ((Go.Lf.idx r2.1 (Go.IntKind.wrap .i64 (z3.1 - (1 : Int))))).bind fun r25 =>
         some (decide ((r25.1 : Int) = (6 : Int)))
         else some false
         else some true
         else bif (!r6) then ((Go.Lf.idx r2.1 (Go.IntKind.wrap .i64 (z3.1 - (1 : Int))))).bind fun r26 =>
         some (decide ((r26.1 : Int) = (6 : Int)))
         else some false
         else some true
         else some true).bind fun r27 =>
       bif r27 then some (.inl false)
       else some (.inr z3.2)
       else some (.inl false) : Option ((Bool) ⊕ (Int))).bind fun r28 =>
     Go.Lf.onSum r28 (fun a29 =>
     some (.inr (.inr a29))) (fun b30 =>
     (bif (!(decide (b30 < (0 : Int)))) then some (decide ((16 : Int) < b30))
       else some true).bind fun r31 =>
     bif r31 then some (.inr (.inr false))
     else some (.inl ((Go.IntKind.wrap .i64 (z3.1 + (1 : Int))), b30)))
     else some (.inr (.inl z3.2))) ((0 : Int), (0 : Int)) : Option ((Int) ⊕ (Bool))).bind fun r32 =>
 Go.Lf.onSum r32 (fun a33 =>
 some (decide ((a33 : Int) = (0 : Int)))) (fun b34 =>
 some b34)
theorem foliolaw04_MarkBraces_eq (a0 : List (UInt8)) : Go.Lf.fnE foliolaw04_MarkBracesCtx foliolaw04_MarkBracesCode foliolaw04_MarkBracesAnn [.val .str] [.bool] [.tmp 2] (a0) = foliolaw04_MarkBraces a0 := by kernel_rfl
noncomputable def foliolaw04_MarkBracesEnt : Nat × Go.Lf.Entry := (7, ⟨[.val .str], [.bool], fun z => foliolaw04_MarkBraces z⟩)
theorem foliolaw04_MarkBraces_ok : Go.Lf.EntryOk Go.Proofs.Tryd.prog GG 7 foliolaw04_MarkBracesEnt.2 :=
  Go.Lf.fn_ok (c := foliolaw04_MarkBracesCtx) (code := foliolaw04_MarkBracesCode) (an := foliolaw04_MarkBracesAnn) (slots := [.tmp 2]) (fn := Go.Proofs.Tryd.f7) (by kernel_rfl) ⟨Tys2_ok, Go.Lf.FnsOk.look (.con foliolaw04_awake_ok (.con mark_Lex_ok (.con strings_Contains_ok .nil)))⟩ (by kernel_rfl) (by kernel_rfl) (by kernel_rfl) (by kernel_rfl) (by kernel_rfl) (Nat.le_of_ble_eq_true rfl) (by simp [Go.Lf.Ty.top]) (by simp [Go.Lf.Ty.top]) fun z r h => (foliolaw04_MarkBraces_eq z).trans h
noncomputable def foliolaw04_MarkBackCtx : Go.Lf.Ctx := ⟨57, Tys2, [mark_EscapeEnt, foliolaw04_awakeEnt, mark_LexEnt, folioref04_SameEnt, text_PlainEnt, strings_ContainsEnt], [], [], []⟩
noncomputable def foliolaw04_MarkBackCode : Go.Code := (Go.Proofs.Tryd.f8.body).getD .skip
def foliolaw04_MarkBackAnn : Go.Lf.Ann := (.seq .no (.seq .no (.seq (.seq .no (.seq (.join (.one .nrm ⟨[0], [], [(41, .bool)], []⟩) .no) .no)) (.seq .no (.seq (.join (.one .nrm ⟨[], [], [(2, .bool)], []⟩) .no) .no)))))
noncomputable def foliolaw04_MarkBack (a0 : List (UInt8)) : Option (Bool) :=
 (Go.Fn.foliolaw04_awake).bind fun r1 =>
 bif (!r1) then some false
 else ((Go.Fn.text_Plain a0)).bind fun r2 =>
 (bif (!(!r2.2)) then bif (!(decide ((a0 : List (UInt8)) = ([] : List (UInt8))))) then bif (!(decide ((2000 : Int) < (((List.length a0) : Nat) : Int)))) then ((Go.Lf.idx a0 (0 : Int))).bind fun r3 =>
   bif (!(decide (((((UInt8.toNat r3) : Nat) : Int) : Int) = (32 : Int)))) then ((Go.Lf.idx a0 (Go.IntKind.wrap .i64 ((((List.length a0) : Nat) : Int) - (1 : Int))))).bind fun r4 =>
   bif (!(decide (((((UInt8.toNat r4) : Nat) : Int) : Int) = (32 : Int)))) then ((Go.Fn.strings_Contains a0 ((32 : UInt8) :: ((32 : UInt8) :: ([] : List (UInt8)))))).bind fun r5 =>
   some r5
   else some true
   else some true
   else some true
   else some true
   else some true).bind fun r6 =>
 bif r6 then some true
 else ((Go.Fn.mark_Escape a0)).bind fun r7 =>
 ((Go.Fn.mark_Lex r7)).bind fun r8 =>
 (bif (Option.isNone r8.2) then ((Go.Fn.folioref04_Same r8.1 (((6 : Int), (([] : List (UInt8)), (a0, ((1 : Int), ((1 : Int), ()))))) :: ([] : List ((Int) × ((List (UInt8)) × ((List (UInt8)) × ((Int) × ((Int) × (Unit)))))))))).bind fun r9 =>
   some r9
   else some false).bind fun r10 =>
 some r10
theorem foliolaw04_MarkBack_eq (a0 : List (UInt8)) : Go.Lf.fnE foliolaw04_MarkBackCtx foliolaw04_MarkBackCode foliolaw04_MarkBackAnn [.val .str] [.bool] [.tmp 2] (a0) = foliolaw04_MarkBack a0 := by kernel_rfl
noncomputable def foliolaw04_MarkBackEnt : Nat × Go.Lf.Entry := (8, ⟨[.val .str], [.bool], fun z => foliolaw04_MarkBack z⟩)
theorem foliolaw04_MarkBack_ok : Go.Lf.EntryOk Go.Proofs.Tryd.prog GG 8 foliolaw04_MarkBackEnt.2 :=
  Go.Lf.fn_ok (c := foliolaw04_MarkBackCtx) (code := foliolaw04_MarkBackCode) (an := foliolaw04_MarkBackAnn) (slots := [.tmp 2]) (fn := Go.Proofs.Tryd.f8) (by kernel_rfl) ⟨Tys2_ok, Go.Lf.FnsOk.look (.con mark_Escape_ok (.con foliolaw04_awake_ok (.con mark_Lex_ok (.con folioref04_Same_ok (.con text_Plain_ok (.con strings_Contains_ok .nil))))))⟩ (by kernel_rfl) (by kernel_rfl) (by kernel_rfl) (by kernel_rfl) (by kernel_rfl) (Nat.le_of_ble_eq_true rfl) (by simp [Go.Lf.Ty.top]) (by simp [Go.Lf.Ty.top]) fun z r h => (foliolaw04_MarkBack_eq z).trans h
end Go.Fn
/- Chapter 4, plainly: the laws of places, of what is escaped, of parts and comments. -/
namespace Go.Fn
open Go Go.Lf
theorem take_snoc {α : Type} {l : List α} {i : Nat} (h : i < l.length) : l.take (i + 1) = l.take i ++ [l[i]] := by
  rw [List.take_add_one, List.getElem?_eq_getElem h]
  rfl
/-- a loop over numbers that goes on to its end -/
theorem upto_loop {κ : Type} {B : Int → Option (Int ⊕ κ)} {n : Nat} {v : κ} (h1 : ∀ i : Nat, i < n → B (i : Int) = some (.inl ((i + 1 : Nat) : Int))) (h2 : B (n : Int) = some (.inr v)) :
    ∀ (m i : Nat), i + m = n → loopC B (i : Int) = some v
  | 0, i, h => by
    have : i = n := by omega
    subst this
    rw [loopC_step, h2]
    rfl
  | m + 1, i, h => by
    rw [loopC_step, h1 i (by omega)]
    exact upto_loop h1 h2 m (i + 1) (by omega)
/-- the same with a state -/
theorem upto_loopS {σ κ : Type} {B : Int × σ → Option ((Int × σ) ⊕ κ)} {n : Nat} {v : κ} (S : Nat → σ) (h1 : ∀ i : Nat, i < n → B ((i : Int), S i) = some (.inl (((i + 1 : Nat) : Int), S (i + 1)))) (h2 : B ((n : Int), S n) = some (.inr v)) :
    ∀ (m i : Nat), i + m = n → loopC B ((i : Int), S i) = some v
  | 0, i, h => by
    have : i = n := by omega
    subst this
    rw [loopC_step, h2]
    rfl
  | m + 1, i, h => by
    rw [loopC_step, h1 i (by omega)]
    exact upto_loopS S h1 h2 m (i + 1) (by omega)
theorem same_refl (t : List Tok) (h : t.length ≤ 1000000000) : folioref04_Same t t = some true := by
  unfold folioref04_Same
  have hl := upto_loop (κ := Unit ⊕ Bool) (n := t.length) (v := .inl ()) (B := fun z1 =>
     bif (decide (z1 < (((List.length t) : Nat) : Int))) then (((Go.Lf.idx t z1)).bind fun r2 =>
       ((Go.Lf.idx t z1)).bind fun r3 =>
       bif (!(decide ((r2.1 : Int) ≠ r3.1))) then ((Go.Lf.idx t z1)).bind fun r4 =>
       ((Go.Lf.idx t z1)).bind fun r5 =>
       bif (!(decide ((r4.2.1 : List (UInt8)) ≠ r5.2.1))) then ((Go.Lf.idx t z1)).bind fun r6 =>
       ((Go.Lf.idx t z1)).bind fun r7 =>
       bif (!(decide ((r6.2.2.1 : List (UInt8)) ≠ r7.2.2.1))) then ((Go.Lf.idx t z1)).bind fun r8 =>
       ((Go.Lf.idx t z1)).bind fun r9 =>
       bif (!(decide ((r8.2.2.2.1 : Int) ≠ r9.2.2.2.1))) then ((Go.Lf.idx t z1)).bind fun r10 =>
       ((Go.Lf.idx t z1)).bind fun r11 =>
       some (decide ((r10.2.2.2.2.1 : Int) ≠ r11.2.2.2.2.1))
       else some true
       else some true
       else some true
       else some true).bind fun r12 =>
     bif r12 then some (.inr (.inr false))
     else some (.inl (Go.IntKind.wrap .i64 (z1 + (1 : Int))))
     else some (.inr (.inl ()))) (fun i hi => by
      have h0 : (i : Int) < ((t.length : Nat) : Int) := by omega
      have hg : idx t (i : Int) = some t[i] := by rw [idx_nat, List.getElem?_eq_getElem hi]
      have hw : IntKind.wrap .i64 ((i : Int) + 1) = ((i + 1 : Nat) : Int) := wrapS (by omega)
      simp only [h0, decide_true, cond_true, hg, Option.bind_some, ne_eq, not_true_eq_false, decide_false, Bool.not_false, cond_false, hw]) (by
      have h0 : ¬ ((t.length : Nat) : Int) < ((t.length : Nat) : Int) := by omega
      simp only [h0, decide_false, cond_false]) t.length 0 (by omega)
  have hl : loopC _ (0 : Int) = _ := hl
  simp only [ne_eq, not_true_eq_false, decide_false, cond_false] at hl ⊢
  rw [hl]
  rfl
theorem moved_loop (t : List Tok) (d f : Int) (h : t.length ≤ 1000000000) (hw : ∀ k ∈ t, f ≤ k.2.2.2.1 → IntKind.wrap .i64 (k.2.2.2.1 + d) = k.2.2.2.1 + d) :
    foliolaw04_moved t d f = some (t.map (mapT fun n => if f ≤ n then n + d else n)) := by
  unfold foliolaw04_moved
  have hl := upto_loopS (κ := List Tok) (n := t.length) (v := t.map (mapT fun n => if f ≤ n then n + d else n)) (B := fun z1 =>
     bif (decide (z1.1 < (((List.length t) : Nat) : Int))) then ((Go.Lf.idx t z1.1)).bind fun r2 =>
     (bif (decide (f ≤ r2.2.2.2.1)) then some (z1.2, (r2.1, (r2.2.1, (r2.2.2.1, ((Go.IntKind.wrap .i64 (r2.2.2.2.1 + d)), r2.2.2.2.2)))))
       else some (z1.2, r2)).bind fun r3 =>
     ((Go.Lf.app (56 : Nat) r3.1 (r3.2 :: ([] : List Tok)))).bind fun r4 =>
     some (.inl ((Go.IntKind.wrap .i64 (z1.1 + (1 : Int))), r4))
     else some (.inr z1.2)) (fun i => (t.take i).map (mapT fun n => if f ≤ n then n + d else n)) (fun i hi => by
      have h0 : (i : Int) < ((t.length : Nat) : Int) := by omega
      have hg : idx t (i : Int) = some t[i] := by rw [idx_nat, List.getElem?_eq_getElem hi]
      have hwi : IntKind.wrap .i64 ((i : Int) + 1) = ((i + 1 : Nat) : Int) := wrapS (by omega)
      have hm : t[i] ∈ t := List.getElem_mem hi
      have ha : ∀ k : Tok, app 56 ((t.take i).map (mapT fun n => if f ≤ n then n + d else n)) [k] = some ((t.take i).map (mapT fun n => if f ≤ n then n + d else n) ++ [k]) := fun k => app_of (by simp; omega)
      have hk := hw _ hm
      rw [take_snoc hi, List.map_append]
      generalize t[i] = k at *
      by_cases hf : f ≤ k.2.2.2.1
      · simp only [h0, decide_true, cond_true, hg, Option.bind_some, hf, hk hf, ha, hwi]
        simp only [List.map_cons, List.map_nil, mapT, if_pos hf]
      · simp only [h0, decide_true, cond_true, hg, Option.bind_some, hf, decide_false, cond_false, ha, hwi]
        simp only [List.map_cons, List.map_nil, mapT, if_neg hf]) (by
      have h0 : ¬ ((t.length : Nat) : Int) < ((t.length : Nat) : Int) := by omega
      simp only [h0, decide_false, cond_false, List.take_length]) t.length 0 (by omega)
  have hl : loopC _ ((0 : Int), ([] : List Tok)) = _ := hl
  rw [hl]
  rfl
/-- the lines, as the document cuts them -/
def crL (l : Bs) : Bs := if l.getLast? = some 13 then l.dropLast else l
theorem crS_L (l : Bs) : crS l = crL l := by
  unfold crL
  split
  · rename_i h
    rcases List.eq_nil_or_concat l with rfl | ⟨p, c, rfl⟩
    · cases h
    · rw [List.concat_eq_append] at *
      have : c = 13 := by simpa using h
      subst this
      unfold crS Lib.trimSuffix
      have : Lib.hasSuffix (p ++ [13]) [13] = true := by
        unfold Lib.hasSuffix
        rw [List.isSuffixOf_iff_suffix]
        exact ⟨p, rfl⟩
      rw [if_pos this]
      simp
  · rename_i h
    exact crS_id h
theorem lines_loop (s : Bs) (hs : s.length ≤ 65536) (B : Int × (List Bs × Int) → Option ((Int × (List Bs × Int)) ⊕ List Bs)) (hB : ∀ z1, B z1 = (bif (decide (z1.1 ≤ (((List.length s) : Nat) : Int))) then ((bif (decide (z1.1 < (((List.length s) : Nat) : Int))) then ((Go.Lf.idx s z1.1)).bind fun r2 =>
         some ((decide (((((UInt8.toNat r2) : Nat) : Int) : Int) ≠ (10 : Int))), z1.2.1)
         else some (false, z1.2.1)).bind fun r3 =>
       bif r3.1 then some (.inl (r3.2, z1.2.2))
       else (bif (decide ((z1.1 : Int) = (((List.length s) : Nat) : Int))) then some ((decide ((z1.2.2 : Int) = (((List.length s) : Nat) : Int))), r3.2)
         else some (false, r3.2)).bind fun r4 =>
       bif r4.1 then some (.inr r4.2)
       else ((bif (decide (z1.2.2 < z1.1)) then ((Go.Lf.idx s (Go.IntKind.wrap .i64 (z1.1 - (1 : Int))))).bind fun r5 =>
           some ((decide (((((UInt8.toNat r5) : Nat) : Int) : Int) = (13 : Int))), r4.2)
           else some (false, r4.2)).bind fun r6 =>
         bif r6.1 then some ((Go.IntKind.wrap .i64 (z1.1 - (1 : Int))), r6.2)
         else some (z1.1, r6.2)).bind fun r7 =>
       ((Go.Lf.sub s z1.2.2 r7.1)).bind fun r8 =>
       ((Go.Lf.app (16 : Nat) r7.2 (r8 :: ([] : List (List (UInt8)))))).bind fun r9 =>
       some (.inl (r9, (Go.IntKind.wrap .i64 (z1.1 + (1 : Int))))) : Option (((List (List (UInt8))) × (Int)) ⊕ (List (List (UInt8))))).bind fun r10 =>
     Go.Lf.onSum r10 (fun a11 =>
     some (.inl ((Go.IntKind.wrap .i64 (z1.1 + (1 : Int))), (a11.1, a11.2)))) (fun b12 =>
     some (.inr b12))
     else some (.inr z1.2.1))) : ∀ (m i j : Nat) (out : List Bs), i + m = s.length → j ≤ i → out.length ≤ i → loopC B ((i : Int), (out, (j : Int))) = some (out ++ (linesA ((s.drop j).take (i - j)) (s.drop i)).map crS) := by
  have cut : ∀ (i j : Nat) (out : List Bs), i ≤ s.length → j ≤ i → out.length ≤ i → (((bif (decide ((j : Int) < (i : Int))) then ((Go.Lf.idx s (Go.IntKind.wrap .i64 ((i : Int) - (1 : Int))))).bind fun r5 =>
           some ((decide (((((UInt8.toNat r5) : Nat) : Int) : Int) = (13 : Int))), out)
           else some (false, out)).bind fun r6 =>
         bif r6.1 then some ((Go.IntKind.wrap .i64 ((i : Int) - (1 : Int))), r6.2)
         else some ((i : Int), r6.2)).bind fun r7 =>
       ((Go.Lf.sub s (j : Int) r7.1)).bind fun r8 =>
       ((Go.Lf.app (16 : Nat) r7.2 (r8 :: ([] : List (List (UInt8)))))).bind fun r9 =>
       some ((.inl (r9, (Go.IntKind.wrap .i64 ((i : Int) + (1 : Int))))) : ((List (List (UInt8))) × (Int)) ⊕ (List (List (UInt8))))) = some (.inl (out ++ [crS ((s.drop j).take (i - j))], ((i + 1 : Nat) : Int))) := by
    intro i j out hi hj ho
    have hw : IntKind.wrap .i64 ((i : Int) + 1) = ((i + 1 : Nat) : Int) := wrapS (by omega)
    have ha : ∀ k : Bs, app 16 out [k] = some (out ++ [k]) := fun k => app_of (by simp; omega)
    by_cases hji : j < i
    · have hji' : (j : Int) < (i : Int) := by omega
      have hw1 : IntKind.wrap .i64 ((i : Int) - 1) = ((i - 1 : Nat) : Int) := by rw [wrap64 (by omega) (by omega)]; omega
      have hlt : i - 1 < s.length := by omega
      have hg : idx s ((i - 1 : Nat) : Int) = some s[i - 1] := by rw [idx_nat, List.getElem?_eq_getElem hlt]
      have c1 : decide (((s[i - 1].toNat : Nat) : Int) = 13) = (s[i - 1] == 13) := nat8 _ 13
      have htk : (s.drop j).take (i - j) = (s.drop j).take (i - 1 - j) ++ [s[i - 1]] := by
        have h2 : i - 1 - j < (s.drop j).length := by rw [List.length_drop]; omega
        rw [show i - j = i - 1 - j + 1 by omega, take_snoc h2, List.getElem_drop]
        congr 2
        congr 1
        omega
      simp only [hji', decide_true, cond_true, hw1, hg, Option.bind_some, c1, hw]
      rw [crS_L, htk]
      unfold crL
      by_cases h13 : s[i - 1] = 13
      · have hs1 : sub s (j : Int) ((i - 1 : Nat) : Int) = some ((s.drop j).take (i - 1 - j)) := sub_nat (by omega) (by omega)
        have hb : (s[i - 1] == 13) = true := by simpa using h13
        simp only [hb, cond_true, Option.bind_some, hs1, ha]
        simp [h13]
      · have hs1 : sub s (j : Int) (i : Int) = some ((s.drop j).take (i - 1 - j) ++ [s[i - 1]]) := by rw [← htk]; exact sub_nat hj hi
        have hb : (s[i - 1] == 13) = false := by simpa using h13
        simp only [hb, cond_false, Option.bind_some, hs1, ha]
        simp [h13]
    · have hji' : ¬ (j : Int) < (i : Int) := by omega
      have e : i = j := by omega
      subst e
      have hs1 : sub s (i : Int) (i : Int) = some [] := by rw [sub_nat (Nat.le_refl _) hi, Nat.sub_self, List.take_zero]
      simp only [hji', decide_false, cond_false, Option.bind_some, hs1, ha, hw, Nat.sub_self, List.take_zero]
      rfl
  intro m
  induction m with
  | zero =>
    intro i j out h hj ho
    have e : i = s.length := by omega
    have h0 : ¬ ((i : Int) < ((s.length : Nat) : Int)) := by omega
    have h1 : ((i : Int) ≤ ((s.length : Nat) : Int)) := by omega
    have h2 : ((i : Int) = ((s.length : Nat) : Int)) = True := eq_true (by omega)
    have hd : s.drop i = [] := List.drop_eq_nil_of_le (by omega)
    rw [loopC_step, hB]
    simp only [h0, h1, h2, decide_true, decide_false, cond_true, cond_false, Option.bind_some]
    by_cases hje : j = s.length
    · have h3 : ((j : Int) = ((s.length : Nat) : Int)) = True := eq_true (by omega)
      have hd2 : s.drop j = [] := List.drop_eq_nil_of_le (by omega)
      simp only [h3, decide_true, cond_true, Option.bind_some]
      rw [hd, hd2]
      simp [linesA, onSum]
    · have h3 : ¬ ((j : Int) = ((s.length : Nat) : Int)) := by omega
      simp only [h3, decide_false, cond_false, Option.bind_some]
      have hcut := cut i j out (by omega) (by omega) (by omega)
      rw [hcut]
      have hne : (s.drop j).take (i - j) ≠ [] := by
        intro h
        have := congrArg List.length h
        rw [List.length_take, List.length_drop] at this
        simp at this; omega
      have hw : IntKind.wrap .i64 ((i : Int) + 1) = ((i + 1 : Nat) : Int) := wrapS (by omega)
      simp only [Option.bind_some, onSum, hw]
      rw [hd, linesA, if_neg hne]
      rw [loopC_step, hB]
      have h4 : ¬ (((i + 1 : Nat) : Int) ≤ ((s.length : Nat) : Int)) := by omega
      simp only [h4, decide_false, cond_false]
      rfl
  | succ m ih =>
    intro i j out h hj ho
    have hlt : i < s.length := by omega
    have h0 : ((i : Int) < ((s.length : Nat) : Int)) := by omega
    have h1 : ((i : Int) ≤ ((s.length : Nat) : Int)) := by omega
    have h2 : ¬ ((i : Int) = ((s.length : Nat) : Int)) := by omega
    have hg : idx s (i : Int) = some s[i] := by rw [idx_nat, List.getElem?_eq_getElem hlt]
    have c1 : decide (((s[i].toNat : Nat) : Int) = 10) = (s[i] == 10) := nat8 _ 10
    have hw : IntKind.wrap .i64 ((i : Int) + 1) = ((i + 1 : Nat) : Int) := wrapS (by omega)
    have hd : s.drop i = s[i] :: s.drop (i + 1) := List.drop_eq_getElem_cons hlt
    rw [loopC_step, hB]
    simp only [h0, h1, h2, decide_true, decide_false, cond_true, cond_false, Option.bind_some, hg, ne_eq, decide_not, c1]
    rw [hd, linesA]
    by_cases h10 : s[i] = 10
    · simp only [h10, beq_self_eq_true, Bool.not_true, cond_false, Option.bind_some, if_true]
      rw [cut i j out (by omega) hj ho]
      simp only [Option.bind_some, onSum, hw]
      have := ih (i + 1) (i + 1) (out ++ [crS ((s.drop j).take (i - j))]) (by omega) (Nat.le_refl _) (by simp; omega)
      rw [this, Nat.sub_self, List.take_zero]
      simp
    · have hb : (s[i] == 10) = false := by simpa using h10
      simp only [hb, Bool.not_false, cond_true, Option.bind_some, onSum, hw, if_neg h10]
      have htk2 : (s.drop j).take (i + 1 - j) = (s.drop j).take (i - j) ++ [s[i]] := by
        have h2 : i - j < (s.drop j).length := by rw [List.length_drop]; omega
        have h3 : j + (i - j) = i := by omega
        rw [show i + 1 - j = i - j + 1 by omega, take_snoc h2, List.getElem_drop]
        simp only [h3]
      have := ih (i + 1) j out (by omega) (by omega) (by omega)
      rw [this, htk2]
theorem lines_eq (s : Bs) (hs : s.length ≤ 65536) : folioref04_Lines s = some ((linesA [] s).map crS) := by
  unfold folioref04_Lines
  have e := lines_loop s hs _ (fun _ => rfl) s.length 0 0 [] (by omega) (Nat.le_refl _) (Nat.le_refl _)
  have e : loopC _ ((0 : Int), (([] : List Bs), (0 : Int))) = _ := e
  rw [e]
  simp
theorem lex_len {s : Bs} {t : List Tok} (h : lexS s = .ok t) : s.length ≤ 65536 := by
  unfold lexS at h
  split at h
  · cases h
  · omega
end Go.Fn
/- Chapter 4, plainly: five laws. -/
namespace Go.Fn
open Go Go.Lf
theorem bind_of {α β : Type} {x : Option α} {v : α} {f : α → Option β} {r : Option β} (h : x = some v) (h2 : f v = r) : x.bind f = r := by
  subst h; exact h2
theorem lex_bound {s : Bs} {t : List Tok} (h : lexS s = .ok t) : t.length ≤ 700000 := by
  have hl := lex_len h
  have hL := lex_loop _ (fun _ => rfl) s.length 0 s lx0 (Nat.le_refl _) hl lx0_ok (by show 0 + s.length ≤ _; omega) (by omega)
  unfold lexS at h
  rw [if_neg (by omega)] at h
  rcases hL with ⟨w, _, q2⟩ | ⟨y, _, q2, q3⟩
  · rw [q2] at h; cases h
  · rw [q2] at h
    simp only at h
    cases he : endS y with
    | error w => rw [he] at h; cases h
    | ok z =>
      rw [he] at h
      cases h
      have := (end_ok (m := 0 + 10 * s.length + 1) q3 (Nat.le_refl _) he).out
      omega
theorem linesA_le : ∀ (s cur : Bs), (linesA cur s).length ≤ s.length + 1
  | [], cur => by
    unfold linesA
    split <;> simp
  | b :: r, cur => by
    unfold linesA
    split
    · have := linesA_le r []
      simp; omega
    · have := linesA_le r (cur ++ [b])
      simp; omega
theorem linesA_mem : ∀ (s cur : Bs), ∀ l ∈ linesA cur s, l.length ≤ cur.length + s.length
  | [], cur, l, h => by
    unfold linesA at h
    split at h
    · cases h
    · simp at h; subst h; simp
  | b :: r, cur, l, h => by
    unfold linesA at h
    split at h
    · rcases List.mem_cons.1 h with rfl | h
      · omega
      · have := linesA_mem r [] l h
        simp at this ⊢; omega
    · have := linesA_mem r (cur ++ [b]) l h
      simp at this ⊢; omega
theorem tok_lines {s : Bs} {t : List Tok} (h : lexS s = .ok t) : ∀ k ∈ t, 1 ≤ k.2.2.2.1 ∧ k.2.2.2.1 ≤ 65537 := by
  intro k hk
  obtain ⟨j, l, h1, h2, _⟩ := (lex_pos h).2 (posT k) (List.mem_map_of_mem hk)
  have h3 := (List.getElem?_eq_some_iff.1 h1).1
  have h4 := linesA_le s []
  have h5 := lex_len h
  rw [List.length_map] at h3
  have h2 : k.2.2.2.1 = ((j + 1 : Nat) : Int) := h2
  omega
theorem places_law (s : Bs) : foliolaw04_MarkPlaces s = some true := by
  unfold foliolaw04_MarkPlaces
  rw [awake, lex_eq]
  cases h : lexS s with
  | error w => rfl
  | ok t =>
    have hl := lex_len h
    have hb := lex_bound h
    obtain ⟨p1, p2⟩ := lex_pos h
    simp only [Option.bind_some, Bool.not_true, cond_false, lexR, Option.isSome_none]
    rw [lines_eq s hl]
    simp only [Option.bind_some]
    have hL := linesA_le s []
    have hLl : ((linesA [] s).map crS).length ≤ s.length + 1 := by rw [List.length_map]; exact hL
    have hLm : ∀ l ∈ (linesA [] s).map crS, l.length ≤ 65536 := by
      intro l h
      obtain ⟨m, hm, rfl⟩ := List.mem_map.1 h
      have h1 := linesA_mem s [] m hm
      have h2 := cr_len m
      simp at h1
      omega
    generalize (linesA [] s).map crS = L at *
    refine bind_of (v := .inl ()) (upto_loop (n := t.length) (fun i hi => ?_) ?_ t.length 0 (by omega)) rfl
    · have h0 : (i : Int) < ((t.length : Nat) : Int) := by omega
      have hg : idx t (i : Int) = some t[i] := by rw [idx_nat, List.getElem?_eq_getElem hi]
      have hw : IntKind.wrap .i64 ((i : Int) + 1) = ((i + 1 : Nat) : Int) := wrapS (by omega)
      obtain ⟨j, l, q1, q2, q3, q4⟩ := p2 (posT t[i]) (List.mem_map_of_mem (List.getElem_mem hi))
      have hjl := (List.getElem?_eq_some_iff.1 q1).1
      have q2 : t[i].2.2.2.1 = ((j + 1 : Nat) : Int) := q2
      have q3 : 1 ≤ t[i].2.2.2.2.1 := q3
      have q4 : t[i].2.2.2.2.1 ≤ ((l.length + 1 : Nat) : Int) := q4
      have e1 : ¬ t[i].2.2.2.1 < 1 := by omega
      have e2 : ¬ ((L.length : Nat) : Int) < t[i].2.2.2.1 := by omega
      have e3 : ¬ t[i].2.2.2.2.1 < 1 := by omega
      have hwl : IntKind.wrap .i64 (t[i].2.2.2.1 - 1) = (j : Int) := by rw [q2, wrap64 (by omega) (by omega)]; omega
      have hgl : idx L (j : Int) = some l := by rw [idx_nat]; exact q1
      have hll := hLm l (List.mem_of_getElem? q1)
      have hwc : IntKind.wrap .i64 (((l.length : Nat) : Int) + 1) = ((l.length + 1 : Nat) : Int) := wrapS (by omega)
      have e4 : ¬ ((l.length + 1 : Nat) : Int) < t[i].2.2.2.2.1 := by omega
      simp only [h0, decide_true, cond_true, hg, Option.bind_some, e1, decide_false, Bool.not_false, e2, e3, hwl, hgl, hwc, e4, cond_false, hw]
      by_cases hi0 : 0 < i
      · have hi0' : (0 : Int) < (i : Int) := by omega
        have hw1 : IntKind.wrap .i64 ((i : Int) - 1) = ((i - 1 : Nat) : Int) := by rw [wrap64 (by omega) (by omega)]; omega
        have hg1 : idx t ((i - 1 : Nat) : Int) = some t[i - 1] := by rw [idx_nat, List.getElem?_eq_getElem (by omega)]
        have hp := List.pairwise_iff_getElem.1 p1 (i - 1) i (by rw [List.length_map]; omega) (by rw [List.length_map]; omega) (by omega)
        rw [List.getElem_map, List.getElem_map] at hp
        have hp : t[i - 1].2.2.2.1 < t[i].2.2.2.1 ∨ (t[i - 1].2.2.2.1 = t[i].2.2.2.1 ∧ t[i - 1].2.2.2.2.1 < t[i].2.2.2.2.1) := hp
        have f1 : ¬ t[i].2.2.2.1 < t[i - 1].2.2.2.1 := by omega
        by_cases heq : t[i].2.2.2.1 = t[i - 1].2.2.2.1
        · have f2 : ¬ t[i].2.2.2.2.1 ≤ t[i - 1].2.2.2.2.1 := by omega
          have heq' : (t[i].2.2.2.1 = t[i - 1].2.2.2.1) = True := eq_true heq
          simp only [hi0', decide_true, cond_true, hw1, hg1, Option.bind_some, f1, decide_false, Bool.not_false, heq', f2, cond_false]
        · simp only [hi0', decide_true, cond_true, hw1, hg1, Option.bind_some, f1, decide_false, Bool.not_false, heq, cond_false]
      · have hi0' : ¬ (0 : Int) < (i : Int) := by omega
        simp only [hi0', decide_false, cond_false, Option.bind_some]
    · have h0 : ¬ ((t.length : Nat) : Int) < ((t.length : Nat) : Int) := by omega
      simp only [h0, decide_false, cond_false]
theorem contains_of {s : Bs} (h : Lib.contains s [32, 32] = false) : nd s := by
  intro a b e
  unfold Lib.contains at h
  rcases Lib.index_spec s [32, 32] with ⟨h1, h2⟩ | ⟨i, h1, _⟩
  · have := h2 a.length (by rw [e]; simp)
    unfold Lib.occAt at this
    rw [e, List.append_assoc, List.drop_left] at this
    simp [List.isPrefixOf] at this
  · rw [h1] at h
    simp at h
theorem back_law (s : Bs) (hs : s.length ≤ 140737488351232) : foliolaw04_MarkBack s = some true := by
  unfold foliolaw04_MarkBack
  have hP : text_Plain s = some (plainS s) := if_pos (by omega)
  rw [awake, hP]
  simp only [Option.bind_some, Bool.not_true, cond_false, Bool.not_not]
  cases hpl : (plainS s).2 with
  | false => rfl
  | true =>
    have hp := (plain_P s).1 hpl
    simp only [cond_true]
    by_cases h0 : s = []
    · subst h0; rfl
    · simp only [h0, decide_false, Bool.not_false, cond_true]
      by_cases hl : 2000 < s.length
      · have : (2000 : Int) < ((s.length : Nat) : Int) := by omega
        simp only [this, decide_true, Bool.not_true, cond_false, Option.bind_some, cond_true]
      · have : ¬ (2000 : Int) < ((s.length : Nat) : Int) := by omega
        have hpos := List.length_pos_iff.2 h0
        have hg : idx s (0 : Int) = some s[0] := (idx_nat s 0).trans (List.getElem?_eq_getElem hpos)
        have c1 : decide (((s[0].toNat : Nat) : Int) = 32) = (s[0] == 32) := nat8 _ 32
        simp only [this, decide_false, Bool.not_false, cond_true, hg, Option.bind_some, c1]
        by_cases hb : s[0] = 32
        · have : (s[0] == 32) = true := by simpa using hb
          simp only [this, Bool.not_true, cond_false, Option.bind_some, cond_true]
        · have : (s[0] == 32) = false := by simpa using hb
          have hw1 : IntKind.wrap .i64 (((s.length : Nat) : Int) - 1) = ((s.length - 1 : Nat) : Int) := by rw [wrap64 (by omega) (by omega)]; omega
          have hg1 : idx s ((s.length - 1 : Nat) : Int) = some (s[s.length - 1]'(by omega)) := by rw [idx_nat, List.getElem?_eq_getElem (by omega)]
          have c2 : decide ((((s[s.length - 1]'(by omega)).toNat : Nat) : Int) = 32) = ((s[s.length - 1]'(by omega)) == 32) := nat8 _ 32
          simp only [this, Bool.not_false, cond_true, hw1, hg1, Option.bind_some, c2]
          by_cases hb2 : (s[s.length - 1]'(by omega)) = 32
          · have : ((s[s.length - 1]'(by omega)) == 32) = true := by simpa using hb2
            simp only [this, Bool.not_true, cond_false, Option.bind_some, cond_true]
          · have : ((s[s.length - 1]'(by omega)) == 32) = false := by simpa using hb2
            have hC : strings_Contains s [32, 32] = some (Lib.contains s [32, 32]) := if_pos (by omega)
            simp only [this, Bool.not_false, cond_true, hC, Option.bind_some]
            cases hc : Lib.contains s [32, 32] with
            | true => rfl
            | false =>
              have e1 : s.head? ≠ some 32 := by
                cases s with
                | nil => simp
                | cons a b => simpa using hb
              have e2 : s.getLast? ≠ some 32 := by
                rw [List.getLast?_eq_getElem?, List.getElem?_eq_getElem (by omega)]
                simpa using hb2
              have hlex := back_lex hp h0 (by omega) e1 e2 (contains_of hc)
              simp only [cond_false]
              rw [escape_T s (by omega)]
              simp only [Option.bind_some]
              rw [lex_eq, hlex]
              simp only [Option.bind_some, lexR, Option.isNone_none, cond_true]
              rw [same_refl _ (by simp)]
              rfl
theorem lex_ok_of {s : Bs} (h : (lexR (lexS s)).2.isSome = false) : ∃ t, lexS s = .ok t := by
  cases hs : lexS s with
  | error w => rw [hs] at h; cases h
  | ok t => exact ⟨t, rfl⟩
theorem parts_law (a b : Bs) : foliolaw04_MarkParts a b = some true := by
  unfold foliolaw04_MarkParts
  rw [awake, lex_eq a, lex_eq b]
  simp only [Option.bind_some, Bool.not_true, cond_false]
  cases ha : lexS a with
  | error w => rfl
  | ok ta =>
    cases hb : lexS b with
    | error w => rfl
    | ok tb =>
      have hla := lex_len ha
      have hlb := lex_len hb
      simp only [lexR, Option.isSome_none, Bool.not_false, cond_true]
      by_cases h0 : a = []
      · subst h0; rfl
      · have hpos := List.length_pos_iff.2 h0
        have hw1 : IntKind.wrap .i64 (((a.length : Nat) : Int) - 1) = ((a.length - 1 : Nat) : Int) := by rw [wrap64 (by omega) (by omega)]; omega
        have hg1 : idx a ((a.length - 1 : Nat) : Int) = some (a[a.length - 1]'(by omega)) := by rw [idx_nat, List.getElem?_eq_getElem (by omega)]
        have c1 : decide ((((a[a.length - 1]'(by omega)).toNat : Nat) : Int) = 10) = ((a[a.length - 1]'(by omega)) == 10) := nat8 _ 10
        have c2 : decide ((((a[a.length - 1]'(by omega)).toNat : Nat) : Int) = 13) = ((a[a.length - 1]'(by omega)) == 13) := nat8 _ 13
        simp only [h0, decide_false, Bool.not_false, cond_true, hw1, hg1, Option.bind_some, c1, c2]
        by_cases h10 : (a[a.length - 1]'(by omega)) = 10
        · have : ((a[a.length - 1]'(by omega)) == 10) = true := by simpa using h10
          simp only [this, Bool.not_true, cond_false, Option.bind_some, cond_true]
        · have hb10 : ((a[a.length - 1]'(by omega)) == 10) = false := by simpa using h10
          simp only [hb10, Bool.not_false, cond_true]
          cases h13 : ((a[a.length - 1]'(by omega)) == 13) with
          | true => rfl
          | false =>
            simp only [Bool.not_false, cond_true]
            by_cases hl : 65534 < a.length
            · have : (65534 : Int) < ((a.length : Nat) : Int) := by omega
              simp only [this, decide_true, Bool.not_true, cond_false, Option.bind_some, cond_true]
            · have : ¬ (65534 : Int) < ((a.length : Nat) : Int) := by omega
              have hw2 : IntKind.wrap .i64 ((65534 : Int) - ((a.length : Nat) : Int)) = 65534 - ((a.length : Nat) : Int) := wrap64 (by omega) (by omega)
              simp only [this, decide_false, Bool.not_false, cond_true, Option.bind_some, hw2]
              by_cases hl2 : (65534 : Int) - ((a.length : Nat) : Int) < ((b.length : Nat) : Int)
              · simp only [hl2, decide_true, cond_true]
              · simp only [hl2, decide_false, cond_false]
                have hLa := linesA_le a []
                have hba := lex_bound ha
                have hbb := lex_bound hb
                have e10 : a.getLast? ≠ some 10 := by
                  rw [List.getLast?_eq_getElem?, List.getElem?_eq_getElem (by omega)]
                  simpa using h10
                rw [lines_eq a hla]
                have hwn : IntKind.wrap .i64 (((((linesA [] a).map crS).length : Nat) : Int) + 1) = (((linesA [] a).length + 1 : Nat) : Int) := by rw [List.length_map, wrapS (by omega)]
                have a1 : app 56 ([] : List Tok) ta = some ta := (app_of (by simp; omega)).trans rfl
                have a2 : app 56 ta [((2 : Int), ([] : Bs), ([] : Bs), (((linesA [] a).length + 1 : Nat) : Int), (1 : Int), ())] = some (ta ++ [((2 : Int), ([] : Bs), ([] : Bs), (((linesA [] a).length + 1 : Nat) : Int), (1 : Int), ())]) := app_of (by simp; omega)
                simp only [Option.bind_some, hwn, a1, a2]
                have hm := moved_loop tb (((linesA [] a).length + 1 : Nat) : Int) 0 (by omega) (fun k hk _ => by
                  have := tok_lines hb k hk
                  exact wrap64 (by omega) (by omega))
                obtain ⟨M, hM⟩ : ∃ M, M = tb.map (mapT fun n => if 0 ≤ n then n + (((linesA [] a).length + 1 : Nat) : Int) else n) := ⟨_, rfl⟩
                have hMl : M.length ≤ 700000 := by rw [hM, List.length_map]; exact hbb
                rw [hm, ← hM]
                have a3 : ∀ x : List Tok, x.length ≤ 700000 → app 56 (ta ++ [((2 : Int), ([] : Bs), ([] : Bs), (((linesA [] a).length + 1 : Nat) : Int), (1 : Int), ())]) x = some (ta ++ [((2 : Int), ([] : Bs), ([] : Bs), (((linesA [] a).length + 1 : Nat) : Int), (1 : Int), ())] ++ x) := fun x hx => app_of (by simp; omega)
                have k1 : cat a [10, 10] = some (a ++ [10, 10]) := cat_of (by simp; omega)
                have k2 : cat (a ++ [10, 10]) b = some (a ++ [10, 10] ++ b) := cat_of (by simp; omega)
                simp only [Option.bind_some, a3 M hMl, k1, k2]
                have hlex := lex_parts ha hb h0 e10 (by omega) (fun n => if 0 ≤ n then n + (((linesA [] a).length + 1 : Nat) : Int) else n) (fun n hn => by
                  show (if (0 : Int) ≤ (n : Int) then _ else _) = _
                  rw [if_pos (by omega)]; omega)
                have e : a ++ [10, 10] ++ b = a ++ 10 :: 10 :: b := by simp
                rw [e, lex_eq, hlex, ← hM]
                simp only [Option.bind_some, lexR, Option.isNone_none, cond_true]
                have e2 : ta ++ [((2 : Int), ([] : Bs), ([] : Bs), (((linesA [] a).length + 1 : Nat) : Int), (1 : Int), ())] ++ M = ta ++ ((2 : Int), ([] : Bs), ([] : Bs), (((linesA [] a).length + 1 : Nat) : Int), (1 : Int), ()) :: M := by simp
                rw [e2, same_refl _ (by simp; omega)]
                rfl
end Go.Fn
/- Chapter 4, plainly: comments, braces. -/
namespace Go.Fn
open Go Go.Lf
/-- where lines begin, but the first -/
def begA (i : Nat) : Bs → List Int
  | [] => []
  | b :: r => if b = 10 then ((i + 1 : Nat) : Int) :: begA (i + 1) r else begA (i + 1) r
theorem begA_le : ∀ (s : Bs) (i : Nat), (begA i s).length ≤ s.length
  | [], i => Nat.le_refl _
  | b :: r, i => by
    have := begA_le r (i + 1)
    unfold begA
    split <;> simp <;> omega
theorem beg_loop (s : Bs) (hs : s.length ≤ 65536) (B : Int × List Int → Option ((Int × List Int) ⊕ List Int)) (hB : ∀ z5, B z5 = (bif (decide (z5.1 < (((List.length s) : Nat) : Int))) then (((Go.Lf.idx s z5.1)).bind fun r6 =>
       bif (decide (((((UInt8.toNat r6) : Nat) : Int) : Int) = (10 : Int))) then ((Go.Lf.app (8 : Nat) z5.2 ((Go.IntKind.wrap .i64 (z5.1 + (1 : Int))) :: ([] : List (Int))))).bind fun r7 =>
       some r7
       else some z5.2).bind fun r8 =>
     some (.inl ((Go.IntKind.wrap .i64 (z5.1 + (1 : Int))), r8))
     else some (.inr z5.2))) : ∀ (m i : Nat) (l : List Int), i + m = s.length → l.length ≤ i + 1 → loopC B ((i : Int), l) = some (l ++ begA i (s.drop i))
  | 0, i, l, h, hl => by
    have h0 : ¬ (i : Int) < ((s.length : Nat) : Int) := by omega
    rw [loopC_step, hB, List.drop_eq_nil_of_le (by omega)]
    simp only [h0, decide_false, cond_false, Option.bind_some]
    simp [begA]
  | m + 1, i, l, h, hl => by
    have hlt : i < s.length := by omega
    have h0 : (i : Int) < ((s.length : Nat) : Int) := by omega
    have hg : idx s (i : Int) = some s[i] := by rw [idx_nat, List.getElem?_eq_getElem hlt]
    have hw : IntKind.wrap .i64 ((i : Int) + 1) = ((i + 1 : Nat) : Int) := wrapS (by omega)
    have c1 : decide (((s[i].toNat : Nat) : Int) = 10) = (s[i] == 10) := nat8 _ 10
    have ha : app 8 l [((i + 1 : Nat) : Int)] = some (l ++ [((i + 1 : Nat) : Int)]) := app_of (by simp; omega)
    rw [loopC_step, hB, List.drop_eq_getElem_cons hlt, begA]
    simp only [h0, decide_true, cond_true, hg, Option.bind_some, c1, hw, ha]
    by_cases h10 : s[i] = 10
    · have hb : (s[i] == 10) = true := by simpa using h10
      simp only [hb, cond_true, Option.bind_some, if_pos h10]
      have := beg_loop s hs B hB m (i + 1) (l ++ [((i + 1 : Nat) : Int)]) (by omega) (by simp; omega)
      rw [this]
      simp
    · have hb : (s[i] == 10) = false := by simpa using h10
      simp only [hb, cond_false, Option.bind_some, if_neg h10]
      exact beg_loop s hs B hB m (i + 1) l (by omega) (by omega)
theorem begA_get : ∀ (s : Bs) (i k : Nat) (v : Int) (cur : Bs), (begA i s)[k]? = some v → ∃ q, v = ((i + q : Nat) : Int) ∧ q ≤ s.length ∧ (s.take q).getLast? = some 10 ∧ (linesA cur (s.take q)).length = k + 1
  | [], i, k, v, cur, h => by simp [begA] at h
  | b :: r, i, k, v, cur, h => by
    unfold begA at h
    have go : ∀ (k' : Nat) (cur' : Bs), (begA (i + 1) r)[k']? = some v → ∃ q, v = ((i + (q + 1) : Nat) : Int) ∧ q + 1 ≤ (b :: r).length ∧ ((b :: r).take (q + 1)).getLast? = some 10 ∧ (linesA cur' (r.take q)).length = k' + 1 := by
      intro k' cur' h
      obtain ⟨q, h1, h2, h3, h4⟩ := begA_get r (i + 1) k' v cur' h
      refine ⟨q, by rw [h1]; congr 1; omega, by simpa using h2, ?_, h4⟩
      rw [List.take_succ_cons]
      cases hr : r.take q with
      | nil => rw [hr] at h3; cases h3
      | cons a t => rw [hr] at h3; simpa using h3
    split at h
    · rename_i h10
      cases k with
      | zero =>
        simp at h
        refine ⟨1, h.symm, by simp, by simp [h10], ?_⟩
        rw [List.take_succ_cons, List.take_zero, h10]
        simp [linesA]
      | succ k =>
        simp only [List.getElem?_cons_succ] at h
        obtain ⟨q, h1, h2, h3, h4⟩ := go k [] h
        refine ⟨q + 1, h1, h2, h3, ?_⟩
        rw [List.take_succ_cons, linesA, if_pos h10, List.length_cons, h4]
    · rename_i h10
      obtain ⟨q, h1, h2, h3, h4⟩ := go k (cur ++ [b]) h
      refine ⟨q + 1, h1, h2, h3, ?_⟩
      rw [List.take_succ_cons, linesA, if_neg h10, h4]
theorem comments_law (s m : Bs) (at_ : Int) (hm : m.length ≤ 140737488351232) : foliolaw04_MarkComments s m at_ = some true := by
  unfold foliolaw04_MarkComments
  rw [awake, lex_eq s]
  simp only [Option.bind_some, Bool.not_true, cond_false]
  cases hs : lexS s with
  | error w => rfl
  | ok t =>
    have hl := lex_len hs
    have hb := lex_bound hs
    have hP : text_Plain m = some (plainS m) := if_pos (by omega)
    simp only [lexR, Option.isSome_none, cond_false, hP, Option.bind_some, Bool.not_not]
    cases hpl : (plainS m).2 with
    | false => rfl
    | true =>
      have hp := (plain_P m).1 hpl
      simp only [cond_true]
      by_cases hml : 4095 < m.length
      · have : (4095 : Int) < ((m.length : Nat) : Int) := by omega
        simp only [this, decide_true, Bool.not_true, cond_false, Option.bind_some, cond_true]
      · have : ¬ (4095 : Int) < ((m.length : Nat) : Int) := by omega
        have hw1 : IntKind.wrap .i64 ((65536 : Int) - ((m.length : Nat) : Int)) = 65536 - ((m.length : Nat) : Int) := wrap64 (by omega) (by omega)
        have hw2 : IntKind.wrap .i64 ((65536 : Int) - ((m.length : Nat) : Int) - 2) = 65536 - ((m.length : Nat) : Int) - 2 := wrap64 (by omega) (by omega)
        simp only [this, decide_false, Bool.not_false, cond_true, Option.bind_some, hw1, hw2]
        by_cases hsl : (65536 : Int) - ((m.length : Nat) : Int) - 2 < ((s.length : Nat) : Int)
        · simp only [hsl, decide_true, cond_true]
        · simp only [hsl, decide_false, cond_false]
          refine bind_of (v := 0 :: begA 0 s) (beg_loop s hl _ (fun _ => rfl) s.length 0 [0] (by omega) (by simp)) ?_
          have hn := begA_le s 0
          have hnl : ((0 : Int) :: begA 0 s).length = (begA 0 s).length + 1 := rfl
          generalize hbe : (0 : Int) :: begA 0 s = be at *
          have hpos : (0 : Int) < ((be.length : Nat) : Int) := by omega
          have hnz : ∀ x : Int, nz ((be.length : Nat) : Int) x = some x := fun x => if_neg (by omega)
          have t1 := Int.tmod_lt_of_pos at_ hpos
          have t2 := Int.lt_tmod_of_pos at_ hpos
          generalize Int.tmod at_ ((be.length : Nat) : Int) = r at *
          have hw3 : IntKind.wrap .i64 (r + ((be.length : Nat) : Int)) = r + ((be.length : Nat) : Int) := wrap64 (by omega) (by omega)
          have t3 := Int.tmod_lt_of_pos (r + ((be.length : Nat) : Int)) hpos
          have t4 := Int.tmod_nonneg ((be.length : Nat) : Int) (show (0 : Int) ≤ r + ((be.length : Nat) : Int) by omega)
          simp only [hnz, Option.bind_some, hw3]
          generalize hk0 : Int.tmod (r + ((be.length : Nat) : Int)) ((be.length : Nat) : Int) = k0 at *
          obtain ⟨k, rfl⟩ : ∃ k : Nat, k0 = k := ⟨k0.toNat, by omega⟩
          have hkl : k < be.length := by omega
          have hfind : ∃ q, be[k]? = some ((q : Nat) : Int) ∧ q ≤ s.length ∧ (s.take q = [] ∨ (s.take q).getLast? = some 10) ∧ (linesA [] (s.take q)).length = k := by
            subst hbe
            cases k with
            | zero => exact ⟨0, rfl, by omega, .inl (by simp), by simp [linesA]⟩
            | succ k =>
              obtain ⟨v, hv⟩ : ∃ v, (begA 0 s)[k]? = some v := ⟨_, List.getElem?_eq_getElem (by omega)⟩
              obtain ⟨q, h1, h2, h3, h4⟩ := begA_get s 0 k v [] hv
              exact ⟨q, by rw [List.getElem?_cons_succ, hv, h1]; simp, h2, .inr h3, h4⟩
          obtain ⟨q, q1, q2, q3, q4⟩ := hfind
          have hg : idx be (k : Int) = some ((q : Nat) : Int) := by rw [idx_nat]; exact q1
          have hs1 : sub s (0 : Int) ((q : Nat) : Int) = some (s.take q) := by
            have := sub_nat (l := s) (a := 0) (b := q) (by omega) q2
            simpa using this
          have hs2 : sub s ((q : Nat) : Int) ((s.length : Nat) : Int) = some (s.drop q) := sub_end q2
          have l1 : (s.take q).length = q := by rw [List.length_take]; omega
          have l2 : (s.drop q).length = s.length - q := List.length_drop ..
          have k1 : cat (s.take q) [35] = some (s.take q ++ [35]) := cat_of (by simp; omega)
          have k2 : cat (s.take q ++ [35]) m = some (s.take q ++ [35] ++ m) := cat_of (by simp; omega)
          have k3 : cat (s.take q ++ [35] ++ m) [10] = some (s.take q ++ [35] ++ m ++ [10]) := cat_of (by simp; omega)
          have k4 : cat (s.take q ++ [35] ++ m ++ [10]) (s.drop q) = some (s.take q ++ [35] ++ m ++ [10] ++ s.drop q) := cat_of (by simp; omega)
          have hw4 : IntKind.wrap .i64 ((k : Int) + 1) = ((k + 1 : Nat) : Int) := wrapS (by omega)
          simp only [hg, Option.bind_some, hs1, k1, k2, k3, hs2, k4, hw4]
          have hlex := lex_comment (p := s.take q) (q := s.drop q) (m := m) (by rw [List.take_append_drop]; exact hs) q3 hp (by omega) (by omega)
          rw [q4] at hlex
          have e : s.take q ++ [35] ++ m ++ [10] ++ s.drop q = s.take q ++ 35 :: m ++ 10 :: s.drop q := by simp
          have hmv := moved_loop t 1 ((k + 1 : Nat) : Int) (by omega) (fun z hz _ => by
            have := tok_lines hs z hz
            exact wrap64 (by omega) (by omega))
          rw [e, lex_eq, hlex, hmv]
          simp only [Option.bind_some, lexR, Option.isNone_none, cond_true]
          rw [same_refl _ (by rw [List.length_map]; omega)]
          rfl
end Go.Fn
/- Chapter 4, plainly: the law of braces. -/
namespace Go.Fn
open Go Go.Lf
/-- texts of at most n bytes -/
def Tx (x : Lx) (n : Nat) : Prop := (∀ k ∈ x.out, k.2.2.1.length ≤ n) ∧ ∀ r, x.run = some r → r.1.length ≤ n
theorem Tx.mono {x : Lx} {n m : Nat} (h : Tx x n) (hm : n ≤ m) : Tx x m := ⟨fun k hk => Nat.le_trans (h.1 k hk) hm, fun r hr => Nat.le_trans (h.2 r hr) hm⟩
theorem tx_put {x : Lx} {n : Nat} (h : Tx x n) (s : Bs) (l c : Int) : Tx (putS x s l c) (n + s.length) := by
  refine ⟨fun k hk => Nat.le_trans (h.1 k hk) (by omega), fun r hr => ?_⟩
  unfold putS at hr
  cases hx : x.run with
  | none => rw [hx] at hr; cases hr; show s.length ≤ _; omega
  | some q =>
    rw [hx] at hr; cases hr
    have := h.2 q hx
    simp; omega
theorem tx_settle {x : Lx} {n : Nat} (h : Tx x n) : Tx (settleS x) (n + 1) := by
  unfold settleS
  split
  · exact Tx.mono (x := { x with fresh := false }) h (by omega)
  · exact tx_put h [32] _ _
theorem tx_flush {x : Lx} {n : Nat} (h : Tx x n) : Tx (flushS x) n := by
  refine ⟨fun k hk => ?_, fun r hr => by cases hr⟩
  unfold flushS at hk
  cases hx : x.run with
  | none => rw [hx] at hk; exact h.1 k hk
  | some q =>
    rw [hx] at hk
    rcases List.mem_append.1 hk with hk | hk
    · exact h.1 k hk
    · simp at hk; subst hk; exact h.2 q hx
theorem tx_tok {x : Lx} {n : Nat} (h : Tx x n) (k : Int) (s : Bs) (c : Int) : Tx (tokS x k s c) (n + 1) := by
  have h1 := tx_flush (tx_settle h)
  refine ⟨fun j hj => ?_, fun r hr => by cases hr⟩
  rcases List.mem_append.1 hj with hj | hj
  · exact h1.1 j hj
  · simp at hj; subst hj; simp
theorem tx_wait {x : Lx} {n : Nat} (h : Tx x n) (c : Int) : Tx (waitS x c) n := by
  unfold waitS
  split <;> exact h
theorem tx_step {x y : Lx} {c k n : Nat} {b : UInt8} {r : Bs} (h : Tx x n) (hs : stepS x c b r = .ok (k, y)) : Tx y (n + 2) := by
  unfold stepS at hs
  repeat' split at hs
  all_goals first | (cases hs; done) | skip
  all_goals (cases hs)
  · exact (tx_wait h _).mono (by omega)
  · exact tx_put (tx_settle h) _ _ _
  · exact (tx_tok h _ _ _).mono (by omega)
  · exact (tx_tok h _ _ _).mono (by omega)
  · exact (tx_tok h _ _ _).mono (by omega)
  · exact tx_put (tx_settle h) _ _ _
theorem tx_text : ∀ (k : Nat) (x y : Lx) (c n : Nat) (l : Bs), Tx x n → textS k x c l = .ok y → Tx y (n + 2 * l.length)
  | 0, x, y, c, n, [], h, ht => by cases ht; exact (tx_wait h _).mono (by omega)
  | k + 1, x, y, c, n, [], h, ht => by cases ht; exact (tx_wait h _).mono (by omega)
  | k + 1, x, y, c, n, _ :: r, h, ht => (tx_text k x y (c + 1) n r h ht).mono (by simp; omega)
  | 0, x, y, c, n, b :: r, h, ht => by
    rw [textS] at ht
    cases hs : stepS x c b r with
    | error w => rw [hs] at ht; cases ht
    | ok p =>
      rw [hs] at ht
      exact (tx_text p.1 p.2 y (c + 1) (n + 2) r (tx_step h hs) ht).mono (by simp; omega)
theorem tx_end {x y : Lx} {n : Nat} (h : Tx x n) (he : endS x = .ok y) : Tx y n := by
  unfold endS at he
  split at he
  · cases he; exact h
  · split at he
    · cases he
    · cases he; exact tx_flush h
theorem trim_len (l cs : Bs) : (Lib.trimS l cs).length ≤ l.length := by
  unfold Lib.trimS Lib.trimLeftS Lib.trimRightS
  refine Nat.le_trans (List.dropWhile_sublist _).length_le ?_
  rw [List.length_reverse]
  refine Nat.le_trans (List.dropWhile_sublist _).length_le ?_
  rw [List.length_reverse]
  exact Nat.le_refl _
theorem tx_take {x y : Lx} {l : Bs} {n : Nat} (h : Tx x n) (ht : takeS x l = .ok y) : Tx y (n + 2 * l.length) := by
  obtain ⟨_, hc⟩ := take_cases ht
  rcases hc with ⟨_, rfl⟩ | ⟨z, t, _, hz, rfl, _, hk⟩ | ⟨_, _, _, ht⟩
  · exact h.mono (by omega)
  · have h1 := tx_end h hz
    refine ⟨fun k hk' => ?_, fun r hr => Nat.le_trans (h1.2 r hr) (by omega)⟩
    rcases List.mem_append.1 hk' with hk' | hk'
    · exact Nat.le_trans (h1.1 k hk') (by omega)
    · simp only [List.mem_singleton] at hk'
      subst hk'
      rcases hk with ⟨_, rfl⟩ | ⟨_, _, _, rfl⟩
      · simp
      · have := trim_len (l.drop (1 + lets (l.drop 1))) [32, 9]
        rw [List.length_drop] at this
        show (Lib.trimS _ _).length ≤ _
        omega
  · refine tx_text 0 (beginS x) y 1 n l ?_ ht
    unfold beginS
    split <;> exact h
theorem tx_lines : ∀ (L : List Bs) (x y : Lx) (n : Nat), Tx x n → linesK x L = .ok y → Tx y (n + 2 * (L.map List.length).sum)
  | [], x, y, n, h, hk => by cases hk; exact h.mono (by omega)
  | l :: L, x, y, n, h, hk => by
    rw [linesK] at hk
    cases ht : takeS (nextL x) (crS l) with
    | error w => rw [ht] at hk; cases hk
    | ok z =>
      rw [ht] at hk
      have hn : Tx (nextL x) n := h
      have h1 := cr_len l
      exact (tx_lines L z y _ (tx_take hn ht) hk).mono (by simp; omega)
theorem linesA_sum : ∀ (s cur : Bs), ((linesA cur s).map List.length).sum ≤ cur.length + s.length
  | [], cur => by
    unfold linesA
    split <;> simp
  | b :: r, cur => by
    unfold linesA
    split
    · have := linesA_sum r []
      simp at this ⊢; omega
    · have := linesA_sum r (cur ++ [b])
      simp at this ⊢; omega
theorem lex_tx {s : Bs} {t : List Tok} (h : lexS s = .ok t) : ∀ k ∈ t, k.2.2.1.length ≤ 2 * s.length := by
  unfold lexS at h
  split at h
  · cases h
  · split at h
    · cases h
    · rename_i y hy
      split at h
      · cases h
      · rename_i z hz
        cases h
        have h0 : Tx lx0 0 := ⟨fun k hk => (by cases hk), fun r hr => by cases hr⟩
        have h1 := tx_end (tx_lines _ _ _ _ h0 hy) hz
        have h2 := linesA_sum s []
        simp at h2
        exact fun k hk => Nat.le_trans (h1.1 k hk) (by omega)
theorem first_eq (t : List Tok) (i : Nat) (hi : i < t.length) (hb : t.length ≤ 700000) : (bif (!(decide ((i : Int) = (0 : Int)))) then ((Go.Lf.idx t (Go.IntKind.wrap .i64 ((i : Int) - (1 : Int))))).bind fun r4 =>
       bif (!(decide ((r4.1 : Int) = (2 : Int)))) then ((Go.Lf.idx t (Go.IntKind.wrap .i64 ((i : Int) - (1 : Int))))).bind fun r5 =>
       some (decide ((r5.1 : Int) = (1 : Int)))
       else some true
       else some true) = some (atS (t.take i)) := by
  by_cases h0 : i = 0
  · subst h0; rfl
  · have h0' : ¬ (i : Int) = 0 := by omega
    have hw1 : IntKind.wrap .i64 ((i : Int) - 1) = ((i - 1 : Nat) : Int) := by rw [wrap64 (by omega) (by omega)]; omega
    have hg1 : idx t ((i - 1 : Nat) : Int) = some (t[i - 1]'(by omega)) := by rw [idx_nat, List.getElem?_eq_getElem (by omega)]
    have hl : (t.take i).getLast? = some (t[i - 1]'(by omega)) := by
      rw [List.getLast?_eq_getElem?, List.length_take, Nat.min_eq_left (by omega), List.getElem?_take, if_pos (by omega), List.getElem?_eq_getElem (by omega)]
    unfold atS
    rw [hl]
    simp only [h0', decide_false, Bool.not_false, cond_true, hw1, hg1, Option.bind_some]
    cases decide ((t[i - 1]'(by omega)).1 = 2) <;> simp
def lastB (t : List Tok) (i : Nat) : Bool := match t[i + 1]? with
  | none => true
  | some k => decide (k.1 = 2) || decide (k.1 = 1)
theorem last_eq (t : List Tok) (i : Nat) (hi : i < t.length) (hb : t.length ≤ 700000) : (bif (!(decide ((i : Int) = (Go.IntKind.wrap .i64 ((((List.length t) : Nat) : Int) - (1 : Int)))))) then ((Go.Lf.idx t (Go.IntKind.wrap .i64 ((i : Int) + (1 : Int))))).bind fun r7 =>
       bif (!(decide ((r7.1 : Int) = (2 : Int)))) then ((Go.Lf.idx t (Go.IntKind.wrap .i64 ((i : Int) + (1 : Int))))).bind fun r8 =>
       some (decide ((r8.1 : Int) = (1 : Int)))
       else some true
       else some true) = some (lastB t i) := by
  have hw : IntKind.wrap .i64 (((t.length : Nat) : Int) - 1) = ((t.length - 1 : Nat) : Int) := by rw [wrap64 (by omega) (by omega)]; omega
  have hw1 : IntKind.wrap .i64 ((i : Int) + 1) = ((i + 1 : Nat) : Int) := wrapS (by omega)
  rw [hw, hw1]
  unfold lastB
  by_cases h0 : i + 1 = t.length
  · have h0' : ((i : Int) = ((t.length - 1 : Nat) : Int)) = True := eq_true (by omega)
    rw [List.getElem?_eq_none (by omega)]
    simp only [h0', decide_true, Bool.not_true, cond_false]
  · have h0' : ¬ (i : Int) = ((t.length - 1 : Nat) : Int) := by omega
    have hg1 : idx t ((i + 1 : Nat) : Int) = some (t[i + 1]'(by omega)) := by rw [idx_nat, List.getElem?_eq_getElem (by omega)]
    rw [List.getElem?_eq_getElem (by omega)]
    simp only [h0', decide_false, Bool.not_false, cond_true, hg1, Option.bind_some]
    cases decide ((t[i + 1]'(by omega)).1 = 2) <;> simp
theorem braces_law (s : Bs) : foliolaw04_MarkBraces s = some true := by
  unfold foliolaw04_MarkBraces
  rw [awake, lex_eq]
  cases h : lexS s with
  | error w => rfl
  | ok t =>
    have hl := lex_len h
    have hb := lex_bound h
    obtain ⟨g1, g2, g3⟩ := lex_br h
    have htx : ∀ k ∈ t, k.2.2.1.length ≤ 1000000000 := fun k hk => Nat.le_trans (lex_tx h k hk) (by omega)
    simp only [Option.bind_some, Bool.not_true, cond_false, lexR, Option.isSome_none]
    refine bind_of (v := .inl 0) (upto_loopS (n := t.length) (fun i => dep (t.take i)) (fun i hi => ?_) ?_ t.length 0 (by omega)) rfl
    · have h0 : (i : Int) < ((t.length : Nat) : Int) := by omega
      have hg : idx t (i : Int) = some t[i] := by rw [idx_nat, List.getElem?_eq_getElem hi]
      have hw : IntKind.wrap .i64 ((i : Int) + 1) = ((i + 1 : Nat) : Int) := wrapS (by omega)
      have hsp : t = t.take i ++ t[i] :: t.drop (i + 1) := by
        rw [← List.drop_eq_getElem_cons hi, List.take_append_drop]
      obtain ⟨c1, c2⟩ := g1 _ _ _ hsp
      have hnx : t[i].1 = 6 → lastB t i = true → t[i].2.2.1.getLast? ≠ some 32 := by
        intro h6 hlb
        unfold lastB at hlb
        cases hn : t[i + 1]? with
        | none =>
          refine g3 t[i] ?_ h6
          rw [List.getElem?_eq_none_iff] at hn
          rw [List.getLast?_eq_getElem?, List.getElem?_eq_getElem (by omega)]
          congr 2; omega
        | some m =>
          rw [hn] at hlb
          refine c2 m (by rw [List.head?_drop, hn]) h6 ?_
          simp at hlb
          omega
      have hdn : dep (t.take (i + 1)) = if t[i].1 = 3 then dep (t.take i) + 1 else if t[i].1 = 5 then dep (t.take i) - 1 else dep (t.take i) := by rw [take_snoc hi, dep_snoc]
      have hft := first_eq t i hi hb
      have hlt := last_eq t i hi hb
      have htl := htx t[i] (List.getElem_mem hi)
      simp only [h0, decide_true, cond_true]
      rw [hft, hlt]
      simp only [Option.bind_some, hg]
      rw [hdn]
      unfold CtB at c1
      have hcont : ∀ x : Bs, x.length ≤ 1000000000 → strings_Contains x [32, 32] = some (Lib.contains x [32, 32]) := fun x hx => if_pos (by omega)
      generalize t[i] = k at *
      generalize dep (t.take i) = d at *
      rcases c1 with ⟨hk, hd⟩ | ⟨hk, hd, hd2⟩ | ⟨hk, hd, hd2⟩ | ⟨hk, hd, hd2⟩ | ⟨hk, hd, hd2, h1, h2, h3, h4⟩
      · rcases hk with hk | hk <;> simp [hk, hd, onSum, hw]
      · have hwd : IntKind.wrap .i64 (d + 1) = d + 1 := wrap64 (by omega) (by omega)
        have e1 : ¬ d + 1 < 0 := by omega
        have e2 : ¬ 16 < d + 1 := by omega
        simp [hk, onSum, hw, hwd, e1, e2]
      · have e0 : ¬ d = 0 := by omega
        have e1 : ¬ d < 0 := by omega
        have e2 : ¬ 16 < d := by omega
        simp [hk, onSum, hw, e0, e1, e2]
      · have hwd : IntKind.wrap .i64 (d - 1) = d - 1 := wrap64 (by omega) (by omega)
        have e1 : ¬ d - 1 < 0 := by omega
        have e2 : ¬ 16 < d - 1 := by omega
        simp [hk, onSum, hw, hwd, e1, e2]
      · have e1 : ¬ d < 0 := by omega
        have e2 : ¬ 16 < d := by omega
        obtain ⟨a, r, hx⟩ := List.exists_cons_of_ne_nil h1
        have hc := hcont k.2.2.1 htl
        rw [nd_contains h2] at hc
        have hi0 : idx k.2.2.1 (0 : Int) = some a := by rw [hx]; exact idx_nat (a :: r) 0
        have ca : decide (((a.toNat : Nat) : Int) = 32) = (a == 32) := nat8 _ 32
        have hpos : 0 < k.2.2.1.length := List.length_pos_iff.2 h1
        have hwl : IntKind.wrap .i64 (((k.2.2.1.length : Nat) : Int) - 1) = ((k.2.2.1.length - 1 : Nat) : Int) := by rw [wrap64 (by omega) (by omega)]; omega
        have hil : idx k.2.2.1 ((k.2.2.1.length - 1 : Nat) : Int) = some (k.2.2.1[k.2.2.1.length - 1]'(by omega)) := by rw [idx_nat, List.getElem?_eq_getElem (by omega)]
        have hgl : k.2.2.1.getLast? = some (k.2.2.1[k.2.2.1.length - 1]'(by omega)) := by rw [List.getLast?_eq_getElem?, List.getElem?_eq_getElem (by omega)]
        have cz : decide ((((k.2.2.1[k.2.2.1.length - 1]'(by omega)).toNat : Nat) : Int) = 32) = ((k.2.2.1[k.2.2.1.length - 1]'(by omega)) == 32) := nat8 _ 32
        have hlast : lastB t i = true → ((k.2.2.1[k.2.2.1.length - 1]'(by omega)) == 32) = false := fun e => by
          have := hnx hk e
          rw [hgl] at this
          simpa using this
        have hfirst : atS (t.take i) = true → (a == 32) = false := fun e => by
          have := h3 e
          rw [hx] at this
          simpa using this
        have hprev : atS (t.take i) = false → ∃ j : Tok, idx t (IntKind.wrap .i64 ((i : Int) - 1)) = some j ∧ decide (j.1 = 6) = false := fun e => by
          have hi0 : i ≠ 0 := fun q => by subst q; cases e
          have hw1 : IntKind.wrap .i64 ((i : Int) - 1) = ((i - 1 : Nat) : Int) := by rw [wrap64 (by omega) (by omega)]; omega
          refine ⟨t[i - 1]'(by omega), by rw [hw1, idx_nat, List.getElem?_eq_getElem (by omega)], ?_⟩
          have := h4 (t[i - 1]'(by omega)) (by rw [List.getLast?_eq_getElem?, List.length_take, Nat.min_eq_left (by omega), List.getElem?_take, if_pos (by omega), List.getElem?_eq_getElem (by omega)])
          simpa using this
        have n1 : decide (k.1 = 1) = false := by simp [hk]
        have n2 : decide (k.1 = 2) = false := by simp [hk]
        have n3 : decide (k.1 = 3) = false := by simp [hk]
        have n4 : decide (k.1 = 4) = false := by simp [hk]
        have n5 : decide (k.1 = 5) = false := by simp [hk]
        have n6 : decide (k.1 = 6) = true := by simp [hk]
        have m3 : ¬ k.1 = 3 := by omega
        have m5 : ¬ k.1 = 5 := by omega
        have hx0 : decide (k.2.2.1 = []) = false := by simpa using h1
        cases hf : atS (t.take i) with
        | true =>
          have ha := hfirst hf
          cases hlb : lastB t i with
          | true =>
            have hz := hlast hlb
            simp only [n1, n2, n3, n4, n5, n6, m3, m5, cond_true, cond_false, Option.bind_some, hx0, Bool.not_false, Bool.not_true, hc, hi0, ca, ha, hwl, hil, cz, hz, onSum, e1, e2, decide_false, hw, if_false]
          | false =>
            simp only [n1, n2, n3, n4, n5, n6, m3, m5, cond_true, cond_false, Option.bind_some, hx0, Bool.not_false, Bool.not_true, hc, hi0, ca, ha, onSum, e1, e2, decide_false, hw, if_false]
        | false =>
          obtain ⟨j, hj1, hj2⟩ := hprev hf
          cases hlb : lastB t i with
          | true =>
            have hz := hlast hlb
            simp only [n1, n2, n3, n4, n5, n6, m3, m5, cond_true, cond_false, Option.bind_some, hx0, Bool.not_false, Bool.not_true, hc, hwl, hil, cz, hz, hj1, hj2, onSum, e1, e2, decide_false, hw, if_false]
          | false =>
            simp only [n1, n2, n3, n4, n5, n6, m3, m5, cond_true, cond_false, Option.bind_some, hx0, Bool.not_false, Bool.not_true, hc, hj1, hj2, onSum, e1, e2, decide_false, hw, if_false]
    · have h0 : ¬ ((t.length : Nat) : Int) < ((t.length : Nat) : Int) := by omega
      simp only [h0, decide_false, cond_false, List.take_length, g2]
end Go.Fn
/-
  From a function's entry to a row's statement: the arguments are opened, nothing old has turned, so all reads as before.
-/
namespace Go.Lf
open Go Go.Eng Go.RowKit Go.ChangeShapes Go.WideShapes Go.ChangeMaps Go.ChangeAt

section
variable {H : Type} {enc : TypeId × Value → H} {P : Program}
def allRead (P : Program) (ts : List TypeId) : Bool := ts.all fun t => P.readableRec t && decide (t < P.types.size)
theorem trodAll_stay (hl : laidOutB P = true) {W W' : World} (hb : Below W.heap.size W W') : ∀ (ts : List TypeId) (vs : List Value) (ds : List (DataW H)) (ps : List MemPlace), allRead P ts = true →
    DataW.TrodAll enc P W 0 (fun _ => true) true ts vs ds ps → (∀ x ∈ ps, x.block < W.heap.size) → DataW.TrodAll enc P W' 0 (fun b => decide (b < W.heap.size)) true ts vs ds ps
  | [], [], [], _, _, h, _ => h
  | [], _ :: _, _, _, _, h, _ => h.elim
  | [], [], _ :: _, _, _, h, _ => h.elim
  | _ :: _, [], _, _, _, h, _ => h.elim
  | _ :: _, _ :: _, [], _, _, h, _ => h.elim
  | t :: ts, v :: vs, d :: ds, ps, hr, h, hlt => by
    obtain ⟨p, q, h1, h2, rfl⟩ := h
    simp only [allRead, List.all_cons, Bool.and_eq_true, decide_eq_true_eq] at hr
    exact ⟨p, q, Below.trod hl hr.1.1 hr.1.2 h1 hb (fun x hx => hlt x (List.mem_append_left _ hx)), trodAll_stay hl hb ts vs ds q hr.2 h2 (fun x hx => hlt x (List.mem_append_right _ hx)), rfl⟩
/-- The law answered true, and nothing old has turned. -/
theorem law_post {f : Func} {s : ChangeSpec} {W W' : World} {args : Array Value} {ds gs : List (DataW H)} {before : List MemPlace} {tb : TypeId} (hl : laidOutB P = true) (hr : allRead P f.params.toList = true) (hv : s.vars = [])
    (hres : f.resultTypes = #[tb]) (htb : P.underlying tb = some .bool) (hW : DataW.Whole enc P f.params.toList s.vars false W args.toList ds gs before)
    (hs : s.fn H (ds ++ gs) = { results := [.lit (.bool true)], args := ds, vars := [] }) (hb : Below W.heap.size W W') : s.post enc P f false true false false W args (.bool true) W' := by
  have hlt : ∀ p ∈ before, p.block < W.heap.size := fun p hp => hW.lt p hp
  have hW0 := hW
  obtain ⟨p, q, hA, hV, hps, _, _⟩ := hW
  rw [hv] at hV
  obtain ⟨rfl, rfl⟩ := trodVars_none hV
  refine ⟨ds, [], before, [], p, [], hW0, ?_, ?_, ?_, hb.frame _, fun h => by cases h⟩
  · rw [hs, hres]
    exact trodAll_mk1 (shut_bool htb true)
  · rw [hs]
    exact trodAll_stay hl hb _ _ _ _ hr hA (fun x hx => hlt x (by rw [hps]; exact List.mem_append_left _ hx))
  · rw [hs, hv]
    rfl
end

/-- The state that a law begins with. -/
def start (W : World) : Cx := ⟨W, [], fun _ => none⟩
def Lasts (W : World) (I : World → Prop) : Prop := ∀ w', Below W.heap.size W w' → I w'
theorem Lasts.and {W : World} {I J : World → Prop} (h : Lasts W I) (k : Lasts W J) : Lasts W (fun w => I w ∧ J w) := fun w' hb => ⟨h w' hb, k w' hb⟩
theorem Lasts.of {W : World} {p : Prop} (h : p) : Lasts W (fun _ => p) := fun _ _ => h
theorem hb_start {W : World} {I : World → Prop} (h : Lasts W I) : Hb (start W) (start W).w0 [] I :=
  ⟨⟨rfl, rfl, rfl, Nat.le_refl _, fun _ _ _ => rfl, fun c hc => absurd hc (by simp [start]), fun c hc => absurd hc (by simp [start]), fun c hc => absurd hc (by simp), fun c hc => absurd hc (by simp), List.Pairwise.nil, fun k m hk => by cases hk⟩,
   fun w' hx => h w' ⟨hx.os, hx.tape, hx.output, hx.size, fun k hk => hx.block k hk rfl (fun c hc => absurd hc (by simp))⟩⟩
theorem cell_lt {W : World} {a : Addr} {v : Value} (h : W.cell? a = some v) : a.block < W.heap.size := by
  rcases Nat.lt_or_ge a.block W.heap.size with h1 | h1
  · exact h1
  · simp [World.cell?, Array.getElem?_eq_none h1] at h
/-- all memory, as it lies -/
def phiOf (W : World) : Phi := fun a => W.cell? a
theorem lasts_agree (W : World) : Lasts W (Agree (phiOf W)) := fun _ hb a _ h => (hb.cell (cell_lt h)).trans h
theorem lasts_var {P : Program} {W : World} {name : String} {cs : Array Value} (h : W.var? P name = some cs) : Lasts W (fun w => w.var? P name = some cs) := fun w' hb => by
  unfold World.var? at *
  cases hg : P.globalNamed name with
  | none => rw [hg] at h; simp at h
  | some g =>
    rw [hg] at h
    simp only [Option.bind_some] at *
    by_cases hlt : g < W.heap.size
    · rw [hb.block g hlt]; exact h
    · rw [Array.getElem?_eq_none (by omega)] at h; simp at h
theorem law_calls {P : Program} {G : World → Prop} {f : Nat} {e : Entry} {z : prodT (e.ps.map Par.ty)} {W : World} {vals : List Value} (he : EntryOk P G f e) (hr : e.rs = [.bool]) (ho : outs e.ps = []) {r : prodT (e.rs ++ outs e.ps)} (hz : e.f z = some r) (ht : unProd (e.rs ++ outs e.ps) r = [⟨.bool, true⟩])
    (ha : ArgsR (phiOf W) e.ps z vals [] []) (hG : Lasts W G) : Calls P f vals.toArray W fun e W' => e = .returned (.bool true) ∧ Below W.heap.size W W' := by
  refine Calls.mono (he.ok z r hz (start W) (phiOf W) vals [] [] ha (hb_start (hG.and (lasts_agree W)))) ?_
  rintro x w' ⟨v, φ', h1, h2, rfl, _, hb, ⟨vs, hv, rfl⟩, _⟩
  rw [ht, hr] at hv
  refine ⟨?_, hb.hp.os, hb.hp.tape, hb.hp.output, hb.hp.size, fun k hk => hb.hp.keep k hk (by simp [start, free])⟩
  cases hv with
  | cons a1 a2 a3 =>
    cases a3
    obtain ⟨rfl, _⟩ := a2
    rfl

/-! ### The arguments -/
section
variable {H : Type} (enc : TypeId × Value → H) (P : Program) (W : World)
def Light (P : Program) (t : TypeId) (d : DataW H) : Prop := ∀ x ∈ d.weights P t, x ≤ reachBytes
end
def rnd (o a : Nat) : Nat := (o + a - 1) / a * a
/-- how a type lies in bytes: its alignment -/
def Ty.aln : Ty → Nat
  | .int k => k.bits / 8
  | .bool => 1
  | .unit => 1
  | .st t => t.aln
  | .pr a b => max a.aln b.aln
  | _ => 8
mutual
def Ty.byt : Ty → Nat
  | .int k => k.bits / 8
  | .bool => 1
  | .str => 16
  | .sl _ => 24
  | .rw _ _ => 24
  | .mr _ _ => 24
  | .dead _ _ => 24
  | .eb _ _ => 16
  | .op _ => 8
  | .ptr _ => 8
  | .st t => rnd (t.end_ 0) t.aln
  | _ => 0
/-- the end of a struct's fields from an offset on -/
def Ty.end_ : Ty → Nat → Nat
  | .pr a b, o => b.end_ (rnd o a.aln + a.byt)
  | _, o => o
end
/-- numbers that are of their kinds, lengths that lie in memory -/
def Wf : (t : Ty) → t.den → Prop
  | .int k, x => k.min ≤ x ∧ x ≤ k.max
  | .str, x => List.length x ≤ 140737488351232
  | .sl t, l => List.length l * t.byt ≤ 140737488351232 ∧ ∀ x ∈ (l : List t.den), Wf t x
  | .st t, x => Wf t x
  | .pr a b, x => Wf a x.1 ∧ Wf b x.2
  | _, _ => True
/-- a type's number says this type -/
def opB (P : Program) : Ty → TypeId ⊕ (List Field × Nat) → Bool
  | .int k, .inl t => match P.underlying t with | some (.int k') => decide (k = k') | _ => false
  | .bool, .inl t => match P.underlying t with | some .bool => true | _ => false
  | .str, .inl t => match P.underlying t with | some .string => true | _ => false
  | .sl a, .inl t => match P.underlying t with | some (.slice e) => Nat.beq (P.cellsOf e) a.size && Nat.blt 0 a.size && Nat.beq (P.bytesOf e) a.byt && opB P a (.inl e) | _ => false
  | .st c, .inl t => match P.underlying t with | some (.struct fs) => Nat.beq (P.cellsOf t) c.size && opB P c (.inr (fs.toList, 0)) | _ => false
  | .pr a b, .inr (f :: fs, o) => Nat.beq f.offset o && Nat.beq (P.cellsOf f.type) a.size && opB P a (.inl f.type) && opB P b (.inr (fs, o + a.size))
  | .unit, .inr ([], _) => true
  | _, _ => false

section
variable {H : Type} (enc : TypeId × Value → H) (P : Program) (W : World)
def OpnT (t : TypeId) (a : Ty) : Prop :=
  ∀ fuel cs d ps, DataW.trod enc P W 0 (fun _ => true) true fuel t cs = some (d, ps) → Light P t d → ∃ x : a.den, Rp (phiOf W) a x cs [] ∧ Wf a x
def OpnF (size o : Nat) (fs : List Field) (a : Ty) : Prop :=
  ∀ (n : Nat) (cs : List Value) (xs : List (DataW H × List MemPlace)), cs.length = size → xs.length = fs.length →
    (∀ (i : Nat) (f : Field), fs[i]? = some f → DataW.trod enc P W 0 (fun _ => true) true n f.type ((cs.drop f.offset).take (P.cellsOf f.type)) = xs[i]?) →
    (∀ (i : Nat) (f : Field) y, fs[i]? = some f → xs[i]? = some y → Light P f.type y.1) → o + a.size = size → ∃ x : a.den, Rp (phiOf W) a x (cs.drop o) [] ∧ Wf a x
end
section
variable {H : Type} {enc : TypeId × Value → H} {P : Program} {W : World} {t e : TypeId}
theorem light_slice {es sp : List (DataW H)} (ht : P.underlying t = some (.slice e)) (hl : Light P t (.slice es sp)) : es.length * P.bytesOf e ≤ 140737488351232 ∧ ∀ d ∈ es, Light P e d := by
  unfold Light at hl
  simp only [DataW.weights, ht] at hl
  have h7 : reachBytes = 140737488351232 := by decide
  constructor
  · have h1 := hl _ (List.mem_cons_self ..)
    have h2 : es.length * P.bytesOf e ≤ (es.length + sp.length) * P.bytesOf e := Nat.mul_le_mul_right _ (by omega)
    omega
  · intro d hd x hx
    refine hl x (List.mem_cons_of_mem _ (List.mem_append_left _ ?_))
    clear hl
    induction es with
    | nil => cases hd
    | cons a r ih =>
      simp only [DataW.weightsAll]
      rcases List.mem_cons.1 hd with rfl | h
      · exact List.mem_append_left _ hx
      · exact List.mem_append_right _ (ih h)
theorem light_agg {fs : Array Field} {ds : List (DataW H)} (ht : P.underlying t = some (.struct fs)) (hl : Light P t (.agg ds)) : ∀ (i : Nat) (f : Field) y, fs.toList[i]? = some f → ds[i]? = some y → Light P f.type y := by
  unfold Light at hl
  simp only [DataW.weights, ht] at hl
  have key : ∀ (l : List Field) (ds : List (DataW H)), (∀ x ∈ DataW.weightsEach P (l.map (·.type)) ds, x ≤ reachBytes) → ∀ (i : Nat) (f : Field) y, l[i]? = some f → ds[i]? = some y → Light P f.type y := by
    intro l
    induction l with
    | nil => intro ds _ i f y h; simp at h
    | cons g r ih =>
      intro ds hl i f y hf hy
      cases ds with
      | nil => simp at hy
      | cons d q =>
        simp only [List.map_cons, DataW.weightsEach] at hl
        cases i with
        | zero =>
          simp at hf hy
          subst hf hy
          exact fun x hx => hl x (List.mem_append_left _ hx)
        | succ i => exact ih q (fun x hx => hl x (List.mem_append_right _ hx)) i f y (by simpa using hf) (by simpa using hy)
  exact key fs.toList ds hl
theorem list_choose {α : Type} {p : Nat → α → Prop} : ∀ n, (∀ i, i < n → ∃ x, p i x) → ∃ l : List α, l.length = n ∧ ∀ i x, l[i]? = some x → p i x
  | 0, _ => ⟨[], rfl, fun i x h => by simp at h⟩
  | n + 1, h => by
    obtain ⟨l, h1, h2⟩ := list_choose n (fun i hi => h i (by omega))
    obtain ⟨x, hx⟩ := h n (by omega)
    refine ⟨l ++ [x], by simp [h1], fun i y hy => ?_⟩
    by_cases hi : i < n
    · rw [List.getElem?_append_left (by omega)] at hy; exact h2 i y hy
    · rw [List.getElem?_append_right (by omega)] at hy
      have h3 : i = n := by
        have := (List.getElem?_eq_some_iff.1 hy).1
        simp at this; omega
      subst h3
      rw [h1, Nat.sub_self] at hy
      simp at hy
      subst hy; exact hx
theorem all2_of {α β : Type} {R : α → β → Prop} : ∀ {l : List α} {m : List β}, l.length = m.length → (∀ (i : Nat) x y, l[i]? = some x → m[i]? = some y → R x y) → All2 R l m
  | [], [], _, _ => .nil
  | [], _ :: _, h, _ => by simp at h
  | _ :: _, [], h, _ => by simp at h
  | x :: l, y :: m, h, hR => .cons (hR 0 x y rfl rfl) (all2_of (by simpa using h) fun i a b ha hb => hR (i + 1) a b (by simpa using ha) (by simpa using hb))
/-- cells of a flat list of lists of one length -/
theorem flat_at {s : Nat} (hs : 0 < s) : ∀ (l : List (List Value)), (∀ c ∈ l, c.length = s) → ∀ (j : Nat) (v : Value), l.flatten[j]? = some v → ∃ i k c, j = i * s + k ∧ l[i]? = some c ∧ c[k]? = some v
  | [], _, j, v, h => by simp at h
  | d :: r, hl, j, v, h => by
    have h1 := hl d List.mem_cons_self
    rw [List.flatten_cons] at h
    by_cases hj : j < s
    · rw [List.getElem?_append_left (by omega)] at h
      exact ⟨0, j, d, by omega, rfl, h⟩
    · rw [List.getElem?_append_right (by omega), h1] at h
      obtain ⟨i, k, c, e1, e2, e3⟩ := flat_at hs r (fun c hc => hl c (List.mem_cons_of_mem _ hc)) (j - s) v h
      exact ⟨i + 1, k, c, by rw [Nat.succ_mul]; omega, by simpa using e2, e3⟩

theorem opn_ok : ∀ (a : Ty), (∀ t, opB P a (.inl t) = true → OpnT enc P W t a) ∧ (∀ fs o size, opB P a (.inr (fs, o)) = true → OpnF enc P W size o fs a)
  | .int k => by
    refine ⟨fun t h => ?_, fun fs o size h => by cases fs <;> simp [opB] at h⟩
    · skip
      unfold opB at h
      split at h
      · rename_i k' hu
        have h := of_decide_eq_true h
        subst h
        intro fuel cs d ps ht _
        obtain ⟨n, h1, h2, h3⟩ := DataW.trod_int hu ht
        exact ⟨n, ⟨h1, rfl⟩, by
          have h4 : k.min ≤ n ∧ n ≤ k.max := by simpa [Lit.wf] using h3
          exact h4⟩
      · cases h
  | .bool => by
    refine ⟨fun t h => ?_, fun fs o size h => by cases fs <;> simp [opB] at h⟩
    · skip
      unfold opB at h
      split at h
      · rename_i hu
        intro fuel cs d ps ht _
        cases fuel with
        | zero => simp [DataW.trod] at ht
        | succ n =>
          unfold DataW.trod at ht
          rw [hu] at ht
          split at ht <;> simp_all [Rp, Wf]
      · cases h
  | .str => by
    refine ⟨fun t h => ?_, fun fs o size h => by cases fs <;> simp [opB] at h⟩
    · skip
      unfold opB at h
      split at h
      · rename_i hu
        intro fuel cs d ps ht hl
        obtain ⟨s, h1, h2, h3⟩ := DataW.trod_string hu ht
        injection h2 with h4 h5
        subst h4
        refine ⟨s.data.toList, ⟨by rw [h1], rfl⟩, ?_⟩
        have h6 := hl s.data.toList.length (by simp [DataW.weights])
        have h7 : reachBytes = 140737488351232 := by decide
        show s.data.toList.length ≤ _
        omega
      · cases h
  | .unit => ⟨fun t h => by simp [opB] at h, fun fs o size h => by
      cases fs with
      | cons f r => simp [opB] at h
      | nil =>
        intro n cs xs hs _ _ _ hz
        have : o = cs.length := by rw [hs]; exact hz
        exact ⟨(), ⟨List.drop_eq_nil_of_le (by omega), rfl⟩, trivial⟩⟩
  | .sl a => by
    refine ⟨fun t h => ?_, fun fs o size h => by cases fs <;> simp [opB] at h⟩
    · skip
      unfold opB at h
      split at h
      case h_2 => cases h
      case h_1 e hu =>
      simp only [Bool.and_eq_true] at h
      obtain ⟨⟨⟨h1, h2⟩, h3⟩, h4⟩ := h
      have hn := Nat.eq_of_beq_eq_true h1
      have h0 : 0 < a.size := by simpa [Nat.blt_eq] using h2
      have hb := Nat.eq_of_beq_eq_true h3
      have he := (opn_ok a).1 e h4
      intro fuel cs d ps hd hl
      rcases DataW.trod_slice hu hd with ⟨g1, g2⟩ | ⟨ad, len, cap, elems, rest, m, _, rfl, hx, _, hlc, _, hlen, hel, _, _⟩
      · exact ⟨([] : List a.den), ⟨none, 0, [], g1, Nat.le_refl _, .nil, fun hn => absurd hn (by simp), rfl⟩, by simp [Wf]⟩
      · injection hx with hx1 hx2
        subst hx1
        obtain ⟨hl1, hl2⟩ := light_slice hu hl
        rw [List.length_map, hlen, hb] at hl1
        have each : ∀ i, i < len → ∃ q : a.den × List Value, Rp (phiOf W) a q.1 q.2 [] ∧ Wf a q.1 ∧ ∀ k u, q.2[k]? = some u → W.cell? (ad.add (i * a.size + k)) = some u := by
          intro i hi
          obtain ⟨y, hy⟩ : ∃ y, elems[i]? = some y := ⟨_, List.getElem?_eq_getElem (by omega)⟩
          have h3 := hel i hi
          rw [hy, hn, Option.bind_eq_some_iff] at h3
          obtain ⟨cs', h4, h5⟩ := h3
          obtain ⟨y1, y2⟩ := y
          obtain ⟨x, h6, h7⟩ := he m cs' y1 y2 h5 (hl2 y1 (List.mem_map.2 ⟨(y1, y2), List.mem_of_getElem? hy, rfl⟩))
          obtain ⟨_, h8, h9⟩ := World.cells?_some h4
          refine ⟨(x, cs'), h6, h7, fun k u hu => ?_⟩
          have hk : k < a.size := by rw [← h6.len]; exact (List.getElem?_eq_some_iff.1 hu).1
          have := h9 k hk
          rw [hu, add_add'] at this
          exact this
        obtain ⟨l, h10, h11⟩ := list_choose len each
        have hll : (l.map (·.1)).length = len := by rw [List.length_map, h10]
        have hall : All2 (fun x cs => Rp (phiOf W) a x cs []) (l.map (·.1)) (l.map (·.2)) := all2_of (by simp) fun i x y hx hy => by
          rw [List.getElem?_map] at hx hy
          cases hq : l[i]? with
          | none => rw [hq] at hx; cases hx
          | some q =>
            rw [hq] at hx hy
            simp only [Option.map_some, Option.some.injEq] at hx hy
            subst hx hy
            exact (h11 i q hq).1
        refine ⟨l.map (·.1), ⟨some ad, cap, l.map (·.2), ?_, ?_, hall, fun _ => ⟨ad, rfl, fun j v hv => ?_⟩, rfl⟩, ?_, fun x hx => ?_⟩
        · show [Value.slice (some ad) len cap] = [Value.slice (some ad) (l.map (·.1)).length cap]
          rw [hll]
        · show (l.map (·.1)).length ≤ cap
          omega
        · obtain ⟨i, k, c, rfl, e2, e3⟩ := flat_at h0 (l.map (·.2)) (fun c hc => by
            obtain ⟨q, hq, rfl⟩ := List.mem_map.1 hc
            obtain ⟨i, hi⟩ := List.getElem?_of_mem hq
            exact (h11 i q hi).1.len) j v hv
          rw [List.getElem?_map] at e2
          cases hq : l[i]? with
          | none => rw [hq] at e2; cases e2
          | some q =>
            rw [hq] at e2
            simp only [Option.map_some, Option.some.injEq] at e2
            subst e2
            exact (h11 i q hq).2.2 k v e3
        · show (l.map (·.1)).length * a.byt ≤ _
          rw [hll]; exact hl1
        · obtain ⟨q, hq, rfl⟩ := List.mem_map.1 hx
          obtain ⟨i, hi⟩ := List.getElem?_of_mem hq
          exact (h11 i q hi).2.1
  | .st c => by
    refine ⟨fun t h => ?_, fun fs o size h => by cases fs <;> simp [opB] at h⟩
    · skip
      unfold opB at h
      split at h
      case h_2 => cases h
      case h_1 fs hu =>
      simp only [Bool.and_eq_true] at h
      have hs := Nat.eq_of_beq_eq_true h.1
      have hF := (opn_ok c).2 fs.toList 0 c.size h.2
      intro fuel cs d ps hd hl
      obtain ⟨xs, n, _, hx, hcl, hxl, hf⟩ := DataW.trod_struct hu hd
      injection hx with hx1 hx2
      subst hx1
      have hla := light_agg hu hl
      obtain ⟨x, h1, h2⟩ := hF n cs xs (by rw [hcl, hs]) (by simpa using hxl) (fun i f hi => hf i f (by simpa using hi)) (fun i f y hi hy => hla i f y.1 hi (by simp [hy])) (by simp)
      have h1 : Rp (phiOf W) c x cs [] := by simpa using h1
      exact ⟨x, h1, h2⟩
  | .pr a b => ⟨fun t h => by simp [opB] at h, fun fs o size h => by
      cases fs with
      | nil => simp [opB] at h
      | cons f fs =>
        unfold opB at h
        simp only [Bool.and_eq_true] at h
        obtain ⟨⟨⟨h1, h2⟩, h3⟩, h4⟩ := h
        have ho := Nat.eq_of_beq_eq_true h1
        have hm := Nat.eq_of_beq_eq_true h2
        have ha := (opn_ok a).1 _ h3
        have hb := (opn_ok b).2 fs (o + a.size) size h4
        intro n cs xs hs hxl hx hl hz
        cases xs with
        | nil => simp at hxl
        | cons y ys =>
          have h3 := hx 0 f rfl
          rw [ho, hm] at h3
          obtain ⟨y1, y2⟩ := y
          obtain ⟨x, g1, g2⟩ := ha n _ y1 y2 h3 (hl 0 f (y1, y2) rfl rfl)
          obtain ⟨z, g3, g4⟩ := hb n cs ys hs (by simpa using hxl) (fun i g hg => by simpa using hx (i + 1) g (by simpa using hg)) (fun i g y hg hy => hl (i + 1) g y (by simpa using hg) (by simpa using hy)) (by rw [← hz]; simp [Ty.size]; omega)
          refine ⟨(x, z), ⟨_, _, [], [], ?_, rfl, g1, g3⟩, g2, g4⟩
          rw [← List.drop_drop, List.take_append_drop]⟩
  | .dead _ _ => ⟨fun t h => by simp [opB] at h, fun fs o size h => by cases fs <;> simp [opB] at h⟩
  | .rw _ _ => ⟨fun t h => by simp [opB] at h, fun fs o size h => by cases fs <;> simp [opB] at h⟩
  | .mr _ _ => ⟨fun t h => by simp [opB] at h, fun fs o size h => by cases fs <;> simp [opB] at h⟩
  | .ptr _ => ⟨fun t h => by simp [opB] at h, fun fs o size h => by cases fs <;> simp [opB] at h⟩
  | .eb _ _ => ⟨fun t h => by simp [opB] at h, fun fs o size h => by cases fs <;> simp [opB] at h⟩
  | .op _ => ⟨fun t h => by simp [opB] at h, fun fs o size h => by cases fs <;> simp [opB] at h⟩

theorem light_arg {ts : List TypeId} {ds : List (DataW H)} {j : Nat} {t : TypeId} {d : DataW H} (hz : (DataW.weightsEach P ts ds).all (· ≤ reachBytes) = true) (ht : ts[j]? = some t) (hd : ds[j]? = some d) : Light P t d := by
  intro x hx
  have h1 : ∀ y ∈ DataW.weightsEach P ts ds, y ≤ reachBytes := fun y hy => by simpa using List.all_eq_true.1 hz y hy
  clear hz
  induction ts generalizing ds j with
  | nil => simp at ht
  | cons a r ih =>
    cases ds with
    | nil => simp at hd
    | cons b q =>
      simp only [DataW.weightsEach] at h1
      cases j with
      | zero =>
        simp at ht hd
        subst ht hd
        exact h1 x (List.mem_append_left _ hx)
      | succ j => exact ih (by simpa using ht) (by simpa using hd) (fun y hy => h1 y (List.mem_append_right _ hy))
/-- an argument, opened -/
theorem open_arg {a : Ty} {v : Value} {d : DataW H} {ps : List MemPlace} {base : Nat} (ha : opB P a (.inl t) = true) (hv : Value.okWide P W .any base t v) (h : DataW.Trod enc P W 0 (fun _ => true) true t v d ps) (hl : Light P t d) :
    ∃ (x : a.den) (cs : List Value), a.top = true ∧ v = sv a cs ∧ Rp (phiOf W) a x cs [] ∧ Wf a x := by
  obtain ⟨fuel, hf⟩ := h
  obtain ⟨x, h1, h2⟩ := (opn_ok (enc := enc) (W := W) a).1 t ha fuel _ d ps hf hl
  refine ⟨x, v.cells.toList, ?_, ?_, h1, h2⟩
  · cases a <;> first | rfl | (simp [opB] at ha; done)
  · cases a <;> first | (simp [opB] at ha; done) | skip
    all_goals unfold opB at ha
    all_goals split at ha <;> first | (cases ha; done) | skip
    all_goals rename_i hu
    · obtain ⟨n, rfl⟩ := okWide_int hu hv; rfl
    · obtain ⟨n, rfl⟩ := okWide_bool hu hv; rfl
    · obtain ⟨n, rfl⟩ := okWide_string hu hv; rfl
    · obtain ⟨A, n, c, rfl⟩ := okWide_slice hu hv; rfl
    · obtain ⟨cs, rfl, _⟩ := okWide_struct hu hv; rfl
end
end Go.Lf
