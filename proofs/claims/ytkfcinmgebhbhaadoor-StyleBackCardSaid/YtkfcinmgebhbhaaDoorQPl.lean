/- Chapter 6, plainly: StyleBack. -/
import Derived.Test.YtkfcinmgebhbhaaDoorQPk
namespace Go.Fn
open Go Go.Lf

theorem low_of {b : UInt8} (h : low b = true) : b.toNat ≠ 32 ∧ b.toNat ≠ 58 := by
  unfold low at h
  simp at h
  omega
theorem okName_low {s : Bs} (h : okName s = true) : ∀ b ∈ s, low b = true := by
  unfold okName at h
  simp only [Bool.and_eq_true] at h
  exact List.all_eq_true.1 h.2
theorem okName_ne {s : Bs} (h : okName s = true) : s ≠ [] := fun e => by subst e; cases h
theorem p58_none : ∀ s : Bs, (∀ b ∈ s, b.toNat ≠ 58) → p58 s = none
  | [], _ => rfl
  | b :: r, h => by
    unfold p58
    rw [if_neg (h b List.mem_cons_self), p58_none r fun x hx => h x (List.mem_cons_of_mem _ hx)]
    rfl
theorem p58_some : ∀ (s r : Bs), (∀ b ∈ s, b.toNat ≠ 58) → p58 (s ++ 58 :: r) = some s.length
  | [], r, _ => rfl
  | b :: s, r, h => by
    rw [List.cons_append]
    unfold p58
    rw [if_neg (h b List.mem_cons_self), p58_some s r fun x hx => h x (List.mem_cons_of_mem _ hx)]
    rfl
def headW (st : Sty) : Bs := st.1 ++ (if st.2.1 = [] then [] else 58 :: st.2.1)
theorem head_word {st : Sty} (h1 : okName st.1 = true) (h2 : st.2.1 = [] ∨ okName st.2.1 = true) : Word (headW st) := by
  unfold headW
  constructor
  · intro e
    exact okName_ne h1 (List.append_eq_nil_iff.1 e).1
  · intro b hb
    rcases List.mem_append.1 hb with hb | hb
    · exact (low_of (okName_low h1 b hb)).1
    · split at hb
      · cases hb
      · rename_i hne
        rcases List.mem_cons.1 hb with rfl | hb
        · decide
        · rcases h2 with h2 | h2
          · exact absurd h2 hne
          · exact (low_of (okName_low h2 b hb)).1
theorem nm_head {st : Sty} (h1 : okName st.1 = true) (h2 : st.2.1 = [] ∨ okName st.2.1 = true) : nm (headW st) = (st.1, st.2.1, true) := by
  unfold headW nm
  have h58 : ∀ b ∈ st.1, b.toNat ≠ 58 := fun b hb => (low_of (okName_low h1 b hb)).2
  by_cases hb : st.2.1 = []
  · rw [if_pos hb, List.append_nil, p58_none _ h58]
    simp [h1, hb]
  · have h3 : okName st.2.1 = true := h2.resolve_left hb
    rw [if_neg hb, p58_some _ _ h58]
    have e1 : (st.1 ++ 58 :: st.2.1).take st.1.length = st.1 := List.take_left
    have e2 : (st.1 ++ 58 :: st.2.1).drop (st.1.length + 1) = st.2.1 := by
      rw [List.drop_append]; simp
    simp only [e1, e2, h1, h3, Bool.and_self]
theorem itoa_word : ∀ n : Nat, n < 16 → Word (Lib.itoa (n : Int)) := by
  have h : ((List.range 16).all fun n => (!(Lib.itoa (n : Int)).isEmpty) && (Lib.itoa (n : Int)).all fun b => !(Nat.beq b.toNat 32)) = true := by kernel_rfl
  intro n hn
  have h1 := List.all_eq_true.1 h n (List.mem_range.2 hn)
  rw [Bool.and_eq_true] at h1
  refine ⟨fun e => ?_, fun b hb => ?_⟩
  · rw [e] at h1; cases h1.1
  · have h2 := List.all_eq_true.1 h1.2 b hb
    intro e
    rw [e] at h2; cases h2
def colW (n : Int) : List Bs := if n = -1 then [] else [COLOR, Lib.itoa n]
theorem colW_word {n : Int} (h0 : -1 ≤ n) (h1 : n ≤ 15) : ∀ w ∈ colW n, Word w := fun w hw => by
  unfold colW at hw
  split at hw
  · cases hw
  · rename_i hne
    rcases List.mem_cons.1 hw with rfl | hw
    · exact ⟨by simp, by decide⟩
    · rw [List.mem_singleton.1 hw]
      have := itoa_word n.toNat (by omega)
      rwa [Int.toNat_of_nonneg (by omega)] at this
theorem write_good {st : Sty} (h1 : okName st.1 = true) (h2 : st.2.1 = [] ∨ okName st.2.1 = true) (hg : Good st.2.2.1) :
    writeS st = (headW st ++ spaced (wordsW (bitN st.2.2.1.1) 43 0 W7 ++ (wordsW (bitN st.2.2.1.2.1) 45 0 W7 ++ colW st.2.2.1.2.2.1)), 0) := by
  have hc := good_chg.1 hg
  unfold writeS headW
  rw [if_neg (by rw [h1]; simp), if_neg (by simp [hc]), if_neg (by
    rintro ⟨g1, g2⟩
    rcases h2 with h2 | h2
    · exact g1 h2
    · rw [h2] at g2; cases g2), bitsW_spaced, bitsW_spaced, spaced_app, spaced_app]
  congr 1
  rw [List.append_assoc, List.append_assoc]
  congr 3
  unfold colW
  split
  · rfl
  · simp [spaced]
theorem pw_col (nm bs : Bs) (on off : Int) {n : Int} (h0 : -1 ≤ n) (h1 : n ≤ 15) : pw false (nm, bs, (on, off, -1, ()), ()) (colW n) = some (nm, bs, (on, off, n, ()), ()) := by
  unfold colW
  by_cases hn : n = -1
  · subst hn; rfl
  · rw [if_neg hn]
    have hc : colS (Lib.itoa n) = some n.toNat := colS_of (by omega) (by rw [Int.toNat_of_nonneg (by omega)])
    have e1 : ∀ st w r, pw false st (w :: r) = if w = COLOR then pw true st r else match attrS st.2.2.1 w with | some c => pw false (st.1, st.2.1, c, ()) r | none => none := fun _ _ _ => rfl
    have e2 : ∀ st w r, pw true st (w :: r) = match colS w with | some n => if st.2.2.1.2.2.1 = -1 then pw false (st.1, st.2.1, (st.2.2.1.1, st.2.2.1.2.1, (n : Int), ()), ()) r else none | none => none := fun _ _ _ => rfl
    rw [e1, if_pos rfl, e2, hc]
    dsimp only
    rw [if_pos rfl, Int.toNat_of_nonneg (by omega)]
    rfl
theorem back_good {st : Sty} (h1 : okName st.1 = true) (h2 : st.2.1 = [] ∨ okName st.2.1 = true) (hg : Good st.2.2.1) : parse (writeS st).1 = (st, 0) := by
  have hw := write_good h1 h2 hg
  have hlen : (writeS st).1.length ≤ 4096 := by
    have l1 := okName_len h1
    have l2 : st.2.1.length ≤ 12 := by
      rcases h2 with h2 | h2
      · rw [h2]; simp
      · exact okName_len h2
    have l3 := bits7 (bitN st.2.2.1.1) [32, 43] (by simp)
    have l4 := bits7 (bitN st.2.2.1.2.1) [32, 45] (by simp)
    have l5 : (spaced (colW st.2.2.1.2.2.1)).length ≤ 9 := by
      unfold colW
      split
      · simp [spaced]
      · rename_i hn
        have := (itoaC hg.2.2.2.1 hg.2.2.2.2 hn).2
        simp only [spaced, List.length_cons, List.length_append, List.length_nil]
        omega
    rw [hw, spaced_app, spaced_app, ← bitsW_spaced, ← bitsW_spaced]
    unfold headW
    simp only [List.length_append]
    split
    · simp only [List.length_nil]; omega
    · simp only [List.length_cons]; omega
  obtain ⟨hh1, hh2⟩ := head_word h1 h2
  unfold parse
  rw [if_neg (by omega), hw]
  dsimp only
  rw [sp_skip _ _ _ _ hh2, List.nil_append, sp_spaced _ _ _ hh1 (fun w hw => by
    rcases List.mem_append.1 hw with hw | hw
    · exact wordsW_word _ _ (by decide) w hw
    · rcases List.mem_append.1 hw with hw | hw
      · exact wordsW_word _ _ (by decide) w hw
      · exact colW_word hg.2.2.2.1 hg.2.2.2.2 w hw), List.nil_append]
  dsimp only
  rw [nm_head h1 h2]
  dsimp only
  rw [if_pos rfl]
  obtain ⟨nm, bs, ⟨on, off, col, ⟨⟩⟩, ⟨⟩⟩ := st
  obtain ⟨g1, g2, g3, g4⟩ := hg
  dsimp only at g1 g2 g3 g4 ⊢
  have z : num 0#64 = 0 := by decide
  have p1 := pw_on nm bs (-1) (bitN on) 0#64 (wordsW (bitN off) 45 0 W7 ++ colW col) 7 0 0#64 rfl (fun j _ _ => by rw [BitVec.or_zero]; simp)
  have p2 := pw_off nm bs (-1) (bitN off) (BitVec.ofInt 64 on) (colW col) 7 0 0#64 rfl (fun j _ hj => by
    rw [BitVec.or_zero]
    have := congrArg (fun x : BitVec 64 => x.getLsbD j) g3
    simp only [BitVec.getLsbD_and, BitVec.getLsbD_zero] at this
    unfold bitN at hj
    rw [hj] at this
    simpa using this)
  rw [List.drop_zero, orW_all g1.1 g1.2, z] at p1
  rw [List.drop_zero, orW_all g2.1 g2.2, num_of (fits127 g1.1 g1.2), z] at p2
  rw [p1, p2, pw_col nm bs on off g4.1 g4.2]
theorem write_ok {st : Sty} (h : (writeS st).2 = 0) : okName st.1 = true ∧ (st.2.1 = [] ∨ okName st.2.1 = true) ∧ Good st.2.2.1 := by
  unfold writeS at h
  split at h
  · exact absurd h (by decide)
  · rename_i g1
    split at h
    · rename_i g2; exact absurd h g2
    · rename_i g2
      split at h
      · exact absurd h (by decide)
      · rename_i g3
        refine ⟨by simpa using g1, ?_, good_chg.2 (by simpa using g2)⟩
        by_cases hb : st.2.1 = []
        · exact .inl hb
        · right
          cases hk : okName st.2.1 with
          | true => rfl
          | false => exact absurd ⟨hb, hk⟩ g3
theorem parse_ok {s : Bs} (h : (parse s).2 = 0) : okName (parse s).1.1 = true ∧ ((parse s).1.2.1 = [] ∨ okName (parse s).1.2.1 = true) ∧ Good (parse s).1.2.2.1 := by
  unfold parse at h ⊢
  split at h
  · exact absurd h (by decide)
  · rename_i g1
    rw [if_neg g1]
    revert h
    generalize sp [] [] s = ws
    intro h
    cases ws with
    | nil => exact absurd h (by decide)
    | cons w r =>
      dsimp only at h ⊢
      split at h
      · rename_i g2
        rw [if_pos g2]
        cases hp : pw false ((nm w).1, (nm w).2.1, (0, 0, -1, ()), ()) r with
        | none => rw [hp] at h; exact absurd h (by decide)
        | some st =>
          obtain ⟨q1, q2, q3⟩ := pw_good r false _ st (show Good (0, 0, -1, ()) from ⟨by decide, by decide, by decide, by decide, by decide⟩) hp
          dsimp only at q2 q3 ⊢
          rw [q2, q3]
          unfold nm at g2 ⊢
          cases hp8 : p58 w with
          | none => rw [hp8] at g2; exact ⟨g2, .inl rfl, q1⟩
          | some i =>
            rw [hp8] at g2
            have g2 : (okName (w.take i) && okName (w.drop (i + 1))) = true := g2
            rw [Bool.and_eq_true] at g2
            exact ⟨g2.1, .inr g2.2, q1⟩
      · exact absurd h (by decide)
theorem parse_bad {s : Bs} (h : (parse s).2 ≠ 0) : (parse s).1 = zs := by
  unfold parse at h ⊢
  split
  · rfl
  · rename_i g1
    rw [if_neg g1] at h
    revert h
    generalize sp [] [] s = ws
    intro h
    cases ws with
    | nil => rfl
    | cons w r =>
      dsimp only at h ⊢
      split
      · rename_i g2
        rw [if_pos g2] at h
        cases hp : pw false ((nm w).1, (nm w).2.1, (0, 0, -1, ()), ()) r with
        | none => rfl
        | some st => rw [hp] at h; exact absurd rfl h
      · rfl
theorem back_law (s : Bs) (st : Sty) (h1 : st.1.length ≤ lim) (h2 : st.2.1.length ≤ lim) (h3 : Fits st.2.2.1.1) (h4 : Fits st.2.2.1.2.1) : foliolaw06_StyleBack s st = some true := by
  unfold foliolaw06_StyleBack
  have b1 : (writeS st).2 = 0 → parse (writeS st).1 = (st, 0) := fun h => by
    obtain ⟨g1, g2, g3⟩ := write_ok h
    exact back_good g1 g2 g3
  have tail : (((Go.Fn.style_Parse s)).bind fun r9 =>
 bif (decide ((r9.2 : Int) ≠ (0 : Int))) then ((Go.Fn.foliolaw06_styles r9.1 (([] : List (UInt8)), (([] : List (UInt8)), (((0 : Int), ((0 : Int), ((0 : Int), ()))), ()))))).bind fun r10 =>
 some r10
 else ((Go.Fn.style_Write r9.1)).bind fun r11 =>
 ((Go.Fn.style_Parse r11.1)).bind fun r12 =>
 (bif (decide ((r11.2 : Int) = (0 : Int))) then bif (decide ((r12.2 : Int) = (0 : Int))) then ((Go.Fn.foliolaw06_styles r9.1 r12.1)).bind fun r13 =>
   some r13
   else some false
   else some false).bind fun r14 =>
 some r14) = some true := by
    rw [sparse_eq]
    simp only [Option.bind_some]
    by_cases he : (parse s).2 = 0
    · obtain ⟨g1, g2, g3⟩ := parse_ok he
      have l1 := okName_len g1
      have l2 : (parse s).1.2.1.length ≤ 12 := by
        rcases g2 with g2 | g2
        · rw [g2]; simp
        · exact okName_len g2
      have hb := back_good g1 g2 g3
      have hw := write_good g1 g2 g3
      have hw0 : (writeS (parse s).1).2 = 0 := by rw [hw]
      rw [swrite_eq _ (by unfold lim; omega) (by unfold lim; omega) (fits127 g3.1.1 g3.1.2) (fits127 g3.2.1.1 g3.2.1.2)]
      simp [he, sparse_eq, hb, hw0, styles_eq]
    · have := parse_bad he
      simp only [ne_eq, he, not_false_eq_true, decide_true, cond_true, this, styles_eq]
      rfl
  revert tail
  generalize ((Go.Fn.style_Parse s)).bind _ = T
  intro tail
  rw [awake, swrite_eq st h1 h2 h3 h4]
  simp only [Option.bind_some, Bool.not_true, cond_false]
  by_cases hw : (writeS st).2 = 0
  · simp only [hw, decide_true, cond_true, sparse_eq (writeS st).1, b1 hw, Option.bind_some, styles_eq, ne_eq, not_true_eq_false, decide_false, Bool.not_false, Bool.not_true, cond_false, onSum]
    exact tail
  · simp only [hw, decide_false, cond_false, Option.bind_some, onSum]
    exact tail
end Go.Fn
