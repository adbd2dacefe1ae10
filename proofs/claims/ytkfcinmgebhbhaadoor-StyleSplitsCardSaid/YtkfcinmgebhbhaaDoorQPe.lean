/- Chapter 6, plainly: the words of a text. -/
import Derived.Test.YtkfcinmgebhbhaaDoorQPd
import Derived.Laws.RangeAny
namespace Go.Fn
open Go Go.Lf

/-- words parted by blanks -/
def shut (acc : List Bs) (cur : Bs) : List Bs := if cur = [] then acc else acc ++ [cur]
def sp : List Bs → Bs → Bs → List Bs
  | acc, cur, [] => shut acc cur
  | acc, cur, b :: r => if b.toNat = 32 then sp (shut acc cur) [] r else sp acc (cur ++ [b]) r
theorem sp_cons (acc : List Bs) (cur : Bs) (b : UInt8) (r : Bs) : sp acc cur (b :: r) = if b.toNat = 32 then sp (shut acc cur) [] r else sp acc (cur ++ [b]) r := rfl
theorem sp_skip : ∀ (xs : Bs) (acc : List Bs) (cur r : Bs), (∀ b ∈ xs, b.toNat ≠ 32) → sp acc cur (xs ++ r) = sp acc (cur ++ xs) r
  | [], acc, cur, r, _ => by simp
  | x :: xs, acc, cur, r, h => by
    have h1 := h x List.mem_cons_self
    rw [List.cons_append, sp_cons, if_neg h1, sp_skip xs acc (cur ++ [x]) r fun b hb => h b (List.mem_cons_of_mem _ hb)]
    simp [List.append_assoc]
theorem shut_len (acc : List Bs) (cur : Bs) : (shut acc cur).length ≤ acc.length + cur.length := by
  unfold shut
  split
  · omega
  · rename_i h
    have : cur.length ≠ 0 := fun e => h (List.length_eq_zero_iff.1 e)
    simp; omega
theorem sp_len : ∀ (r : Bs) (acc : List Bs) (cur : Bs), (sp acc cur r).length ≤ acc.length + cur.length + r.length
  | [], acc, cur => by unfold sp; have := shut_len acc cur; simpa using this
  | b :: r, acc, cur => by
    unfold sp
    split
    · have h1 := sp_len r (shut acc cur) []
      have h2 := shut_len acc cur
      simp at h1 ⊢; omega
    · have h1 := sp_len r acc (cur ++ [b])
      simp at h1 ⊢; omega
theorem sp_words : ∀ (r : Bs) (acc : List Bs) (cur : Bs) (n : Nat), (∀ x ∈ acc, x ≠ [] ∧ x.length ≤ n) → cur.length + r.length ≤ n → ∀ x ∈ sp acc cur r, x ≠ [] ∧ x.length ≤ n := by
  have hs : ∀ (acc : List Bs) (cur : Bs) (n : Nat), (∀ x ∈ acc, x ≠ [] ∧ x.length ≤ n) → cur.length ≤ n → ∀ x ∈ shut acc cur, x ≠ [] ∧ x.length ≤ n := fun acc cur n h hc x hx => by
    unfold shut at hx
    split at hx
    · exact h x hx
    · rename_i hne
      rcases List.mem_append.1 hx with h1 | h1
      · exact h x h1
      · rw [List.mem_singleton.1 h1]; exact ⟨hne, hc⟩
  intro r
  induction r with
  | nil => intro acc cur n h hc; exact hs acc cur n h (by simpa using hc)
  | cons b r ih =>
    intro acc cur n h hc
    unfold sp
    simp only [List.length_cons] at hc
    split
    · exact ih _ _ n (hs acc cur n h (by omega)) (by simp; omega)
    · exact ih _ _ n h (by simp; omega)

theorem take_succ_at {s : Bs} {a i : Nat} {b : UInt8} (h : a ≤ i) (hb : s[i]? = some b) : (s.drop a).take (i + 1 - a) = (s.drop a).take (i - a) ++ [b] := by
  rw [show i + 1 - a = (i - a) + 1 by omega, List.take_add_one, List.getElem?_drop, show a + (i - a) = i by omega, hb]; rfl
theorem rwords_loop (s : Bs) (hs : s.length ≤ 4096) : folioref06_words s = some (sp [] [] s) := by
  unfold folioref06_words
  have key : ∀ (B : Int × Int × List Bs → Option ((Int × Int × List Bs) ⊕ List Bs)), (∀ z1, B z1 = (bif (decide (z1.1 ≤ (((List.length s) : Nat) : Int))) then ((bif (decide (z1.1 < (((List.length s) : Nat) : Int))) then ((Go.Lf.idx s z1.1)).bind fun r2 =>
         some ((decide (((((UInt8.toNat r2) : Nat) : Int) : Int) ≠ (32 : Int))), z1.2.2)
         else some (false, z1.2.2)).bind fun r3 =>
       bif r3.1 then some (z1.2.1, r3.2)
       else (bif (decide (z1.2.1 < z1.1)) then ((Go.Lf.sub s z1.2.1 z1.1)).bind fun r4 =>
         ((Go.Lf.app (16 : Nat) r3.2 (r4 :: ([] : List (List (UInt8)))))).bind fun r5 =>
         some r5
         else some r3.2).bind fun r6 =>
       some ((Go.IntKind.wrap .i64 (z1.1 + (1 : Int))), r6)).bind fun r7 =>
     some (.inl ((Go.IntKind.wrap .i64 (z1.1 + (1 : Int))), (r7.1, r7.2)))
     else some (.inr z1.2.2))) → ∀ (m i a : Nat) (out : List Bs), i + m = s.length → a ≤ i → out.length ≤ i → loopC B ((i : Int), (a : Int), out) = some (sp out ((s.drop a).take (i - a)) (s.drop i)) := fun B hB => by
    have hsh : ∀ (i a : Nat) (out : List Bs), i ≤ s.length → a ≤ i → out.length ≤ i → (bif (decide ((a : Int) < (i : Int))) then ((Go.Lf.sub s (a : Int) (i : Int))).bind fun r4 =>
         ((Go.Lf.app (16 : Nat) out (r4 :: ([] : List (List (UInt8)))))).bind fun r5 =>
         some r5
         else some out) = some (shut out ((s.drop a).take (i - a))) := fun i a out hi ha ho => by
      by_cases h : a < i
      · have h' : (a : Int) < i := by omega
        have hne : (s.drop a).take (i - a) ≠ [] := fun e => by
          have := congrArg List.length e
          simp at this; omega
        simp only [h', decide_true, cond_true, sub_nat ha hi, Option.bind_some]
        rw [app_of (by simp; omega)]
        unfold shut
        rw [if_neg hne]; rfl
      · have h' : ¬ (a : Int) < i := by omega
        have : i - a = 0 := by omega
        simp [h', this, shut]
    intro m
    induction m with
    | zero =>
      intro i a out hi ha ho
      have hi : i = s.length := by omega
      have e1 : (i : Int) ≤ (s.length : Int) := by omega
      have e2 : ¬ (i : Int) < (s.length : Int) := by omega
      rw [loopC_step, hB]
      simp only [e1, e2, decide_true, decide_false, cond_true, cond_false, Option.bind_some, hsh i a out (by omega) ha ho]
      rw [wrapS (by omega), loopC_step, hB]
      have e3 : ¬ ((i + 1 : Nat) : Int) ≤ (s.length : Int) := by omega
      simp only [e3, decide_false, cond_false, Option.bind_some]
      rw [List.drop_of_length_le (l := s) (i := i) (by omega)]
      rfl
    | succ m ih =>
      intro i a out hi ha ho
      have e1 : (i : Int) ≤ (s.length : Int) := by omega
      have e2 : (i : Int) < (s.length : Int) := by omega
      have hlt : i < s.length := by omega
      have hg : s[i]? = some s[i] := List.getElem?_eq_getElem hlt
      rw [loopC_step, hB, List.drop_eq_getElem_cons hlt]
      simp only [e1, e2, decide_true, cond_true, Option.bind_some, idx_nat, hg]
      unfold sp
      by_cases h32 : s[i].toNat = 32
      · have e3 : decide (((s[i].toNat : Nat) : Int) ≠ 32) = false := decide_eq_false (by omega)
        have hl : (shut out ((s.drop a).take (i - a))).length ≤ i + 1 := by
          unfold shut
          split
          · omega
          · simp only [List.length_append, List.length_singleton]; omega
        rw [if_pos h32]
        simp only [e3, cond_false, Option.bind_some, hsh i a out (by omega) ha ho]
        rw [wrapS (by omega), ih (i + 1) (i + 1) _ (by omega) (by omega) hl]
        simp
      · have e3 : decide (((s[i].toNat : Nat) : Int) ≠ 32) = true := decide_eq_true (by omega)
        rw [if_neg h32]
        simp only [e3, cond_true, Option.bind_some]
        rw [wrapS (by omega), ih (i + 1) a out (by omega) (by omega) (by omega), take_succ_at ha hg]
  have h := key _ (fun _ => rfl) s.length 0 0 [] (by omega) (by omega) (by simp)
  have h : loopC _ ((0 : Int), (0 : Int), ([] : List Bs)) = _ := h
  rw [h]
  simp

/-- what a rune of more than one byte skips -/
theorem decode_cont (s : ByteArray) (pos k : Nat) (hk : 0 < k) (h : k < (Utf8.decode s pos).2) : pos + k < s.size ∧ (s.get! (pos + k)).toNat / 64 = 2 := by
  simp only [Utf8.decode] at h
  repeat' split at h
  all_goals simp_all
  all_goals first
    | omega
    | (have h1 : k = 1 := by omega
       subst h1; omega)
    | (have h1 : k = 1 ∨ k = 2 := by omega
       rcases h1 with rfl | rfl <;> omega)
    | (have h1 : k = 1 ∨ k = 2 ∨ k = 3 := by omega
       rcases h1 with rfl | rfl | rfl <;> omega)
theorem getS (s : Bs) (i : Nat) (h : i < s.length) : (⟨s.toArray⟩ : ByteArray).get! i = s[i] := by
  simp [ByteArray.get!, h]
theorem extS (s : Bs) (a b : Nat) : ((⟨s.toArray⟩ : ByteArray).extract a b).data.toList = (s.drop a).take (b - a) := by
  simp [ByteArray.data_extract, List.extract_eq_take_drop]
theorem is32 (r : Nat) : decide ((r : Int) = 32) = decide (r = 32) := by
  by_cases h : r = 32
  · subst h; rfl
  · have : ¬ (r : Int) = 32 := by omega
    simp [h, this]
/-- the pieces that the library cuts -/
def piece (s : Bs) (x : Nat × Nat) : Bs := (s.drop x.1).take (x.2 - x.1)
theorem fields_go (s : Bs) : ∀ (f pos : Nat) (st : Option Nat) (acc : List (Nat × Nat)), s.length ≤ f + pos → pos ≤ s.length → (∀ a, st = some a → a < pos) →
    (Lib.closeSpans ⟨s.toArray⟩ (Lib.spansFromP (fun r => decide ((r : Int) = 32)) ⟨s.toArray⟩ f pos st acc)).map (piece s) = sp (acc.map (piece s)) (match st with | none => [] | some a => piece s (a, pos)) (s.drop pos) := by
  have hsz : (⟨s.toArray⟩ : ByteArray).size = s.length := rfl
  have hend : ∀ (f pos : Nat) (st : Option Nat) (acc : List (Nat × Nat)), pos = s.length → (∀ a, st = some a → a < pos) → (Lib.closeSpans ⟨s.toArray⟩ (Lib.spansFromP (fun r => decide ((r : Int) = 32)) ⟨s.toArray⟩ f pos st acc)).map (piece s) = sp (acc.map (piece s)) (match st with | none => [] | some a => piece s (a, pos)) (s.drop pos) := fun f pos st acc hp hst => by
    subst hp
    rw [Lib.spansFromP_end _ _ _ _ _ _ (by rw [hsz]; omega), List.drop_length]
    cases st with
    | none => simp [Lib.closeSpans, sp, shut]
    | some a =>
      have ha := hst a rfl
      have hne : piece s (a, s.length) ≠ [] := fun e => by
        have := congrArg List.length e
        simp [piece] at this; omega
      simp only [Lib.closeSpans, sp, shut, hne, if_false, hsz]
      simp
  intro f
  induction f with
  | zero => intro pos st acc h1 h2 h3; exact hend 0 pos st acc (by omega) h3
  | succ f ih =>
    intro pos st acc h1 h2 h3
    by_cases hp : pos < s.length
    · have hg : s[pos]? = some s[pos] := List.getElem?_eq_getElem hp
      have hd : s.drop pos = s[pos] :: s.drop (pos + 1) := List.drop_eq_getElem_cons hp
      have hat : (⟨s.toArray⟩ : ByteArray)[pos]'hp = s[pos] := rfl
      unfold Lib.spansFromP
      rw [if_pos (show pos < (⟨s.toArray⟩ : ByteArray).size from hp)]
      by_cases hlo : s[pos].toNat < 128
      · have hdec : Utf8.decode (⟨s.toArray⟩ : ByteArray) pos = (s[pos].toNat, 1) := decode_ascii (⟨s.toArray⟩ : ByteArray) pos hp hlo
        rw [hdec]
        dsimp only
        rw [is32]
        by_cases h32 : s[pos].toNat = 32
        · rw [h32, hd]
          simp only [decide_true, if_true]
          rw [sp_cons, if_pos h32]
          cases st with
          | none =>
            dsimp only
            rw [ih (pos + 1) none acc (by omega) (by omega) (fun a h => by cases h)]
            rfl
          | some a =>
            have ha := h3 a rfl
            dsimp only
            have hne : piece s (a, pos) ≠ [] := fun e => by
              have := congrArg List.length e
              simp [piece] at this; omega
            rw [ih (pos + 1) none _ (by omega) (by omega) (fun a h => by cases h)]
            simp only [shut, hne, if_false, List.map_append, List.map_cons, List.map_nil]
        · simp only [h32, decide_false, Bool.false_eq_true, if_false]
          rw [hd, sp_cons, if_neg h32]
          cases st with
          | none =>
            dsimp only
            rw [ih (pos + 1) (some pos) acc (by omega) (by omega) (fun a h => by cases h; omega)]
            dsimp only
            congr 1
            unfold piece
            dsimp only
            rw [hd, show pos + 1 - pos = 1 by omega]; rfl
          | some a =>
            have ha := h3 a rfl
            dsimp only
            rw [ih (pos + 1) (some a) acc (by omega) (by omega) (fun b h => by cases h; omega)]
            dsimp only
            congr 1
            exact take_succ_at (by omega) hg
      · have hhi := decode_high (⟨s.toArray⟩ : ByteArray) pos hp (by rw [hat]; omega)
        have hco := decode_cont (⟨s.toArray⟩ : ByteArray) pos
        revert hhi hco
        generalize Utf8.decode (⟨s.toArray⟩ : ByteArray) pos = d
        obtain ⟨r, n⟩ := d
        intro hhi hco
        dsimp only at hhi hco ⊢
        have hn : pos + n ≤ s.length := by
          by_cases h : n = 1
          · omega
          · have := (hco (n - 1) (by omega) (by omega)).1
            rw [hsz] at this; omega
        have hr : decide ((r : Int) = 32) = false := decide_eq_false (by omega)
        have hsplit : s.drop pos = (s.drop pos).take n ++ s.drop (pos + n) := by
          rw [← List.drop_drop]; exact (List.take_append_drop n (s.drop pos)).symm
        have hall : ∀ b ∈ (s.drop pos).take n, b.toNat ≠ 32 := fun b hb => by
          obtain ⟨k, hk, rfl⟩ := List.mem_iff_getElem.1 hb
          simp only [List.length_take, List.length_drop] at hk
          rw [List.getElem_take, List.getElem_drop]
          by_cases h0 : k = 0
          · subst h0
            simp only [Nat.add_zero]; omega
          · have := (hco k (by omega) (by omega)).2
            rw [getS s (pos + k) (by omega)] at this
            omega
        rw [hsplit, sp_skip _ _ _ _ hall]
        simp only [hr, Bool.false_eq_true, if_false]
        cases st with
        | none =>
          dsimp only
          rw [ih (pos + n) (some pos) acc (by omega) hn (fun a h => by cases h; omega)]
          dsimp only
          congr 1
          unfold piece
          simp
        | some a =>
          have ha := h3 a rfl
          dsimp only
          rw [ih (pos + n) (some a) acc (by omega) hn (fun b h => by cases h; omega)]
          dsimp only
          congr 1
          unfold piece
          dsimp only
          rw [show pos + n - a = (pos - a) + n by omega, List.take_add, List.drop_drop, show a + (pos - a) = pos by omega]
    · exact hend (f + 1) pos st acc (by omega) h3
theorem fields_eq (s : Bs) (hs : s.length ≤ 4096) : strings_FieldsFunc s () = some (sp [] [] s) := by
  unfold strings_FieldsFunc
  rw [if_pos (by omega)]
  have h := fields_go s s.length 0 none [] (by omega) (by omega) (fun a h => by cases h)
  rw [List.drop_zero] at h
  rw [← show _ = sp [] [] s from h]
  unfold Lib.goFieldsP Lib.spansOfP
  rw [List.map_map]
  congr 1
  refine List.map_congr_left fun x _ => ?_
  exact extS s x.1 x.2
end Go.Fn
