/- Plain words: characters. -/
import Derived.Lib.RuneCountTail
import Derived.Test.YtpaecijilnfkhaaDoorPq

namespace Go.Proofs.YtpaecijilnfkhaaDoor
open Go Go.Eng Go.RowKit

/-! characters -/
structure CharS where
  r : Int
  at_ : Int
  n : Int
  bad : Bool
@[reducible] def ch4 (c : CharS) : List Value := [.int .i32 c.r, .int .i64 c.at_, .int .i64 c.n, .bool c.bad]
theorem ch4_length (c : CharS) : (ch4 c).length = 4 := rfl
def chr_ (l : List UInt8) (p : Nat) : CharS := ⟨((Utf8.decode (bytesOf l) p).1 : Int), p, ((Utf8.decode (bytesOf l) p).2 : Int), decide (((Utf8.decode (bytesOf l) p).1 : Int) = 65533) && decide (((Utf8.decode (bytesOf l) p).2 : Int) = 1)⟩
def fullF : Nat → List UInt8 → Nat → List CharS
  | 0, _, _ => []
  | f + 1, l, p => if p < l.length then chr_ l p :: fullF f l (p + (Utf8.decode (bytesOf l) p).2) else []
def charsS (l : List UInt8) : List CharS := fullF l.length l 0
def rawC (c : CharS) : CharS := ⟨c.r, c.at_, 0, false⟩
theorem dec_fit (l : List UInt8) (p : Nat) (h : p < l.length) : p + (Utf8.decode (bytesOf l) p).2 ≤ l.length := by
  have hs : (bytesOf l).size = l.length := rfl
  unfold Utf8.decode
  simp only [hs]
  repeat' split
  all_goals (try dsimp only)
  all_goals first
    | omega
    | (rename_i h1 _; simp only [Bool.and_eq_true, decide_eq_true_eq] at h1; omega)
    | (rename_i h1; simp only [Bool.and_eq_true, decide_eq_true_eq] at h1; omega)
theorem bad_eq {l : List UInt8} {p : Nat} (hp : p < l.length) : badS l p = (chr_ l p).bad := by
  have h1 : Lib.decodeGo ⟨(l.drop p).toArray⟩ = Utf8.decode (bytesOf l) p := by
    have h2 : (⟨(l.drop p).toArray⟩ : ByteArray) = (bytesOf l).extract p (bytesOf l).size := by
      apply ByteArray.ext
      rw [ByteArray.data_extract]
      apply Array.ext'
      simp [bytesOf, ByteArray.size]
      exact (List.take_of_length_le (by simp)).symm
    have h3 : (⟨(l.drop p).toArray⟩ : ByteArray).size ≠ 0 := by
      show (l.drop p).toArray.size ≠ 0
      simp; omega
    unfold Lib.decodeGo
    rw [if_neg h3, h2, Lib.tail_decode, Nat.add_zero]
  unfold badS chr_
  rw [h1]
theorem full_cons {f p : Nat} {l : List UInt8} (hp : p < l.length) : fullF (f + 1) l p = chr_ l p :: fullF f l (p + (Utf8.decode (bytesOf l) p).2) := by rw [fullF, if_pos hp]
theorem full_nil {f p : Nat} {l : List UInt8} (hp : ¬ p < l.length) : fullF f l p = [] := by cases f with
  | zero => rfl
  | succ f => rw [fullF, if_neg hp]
/-- where the next one stands -/
theorem full_next : ∀ (f : Nat) (l : List UInt8) (p : Nat), l.length ≤ p + f → ∀ (i : Nat) c, (fullF f l p)[i]? = some c →
    (∃ q : Nat, c = chr_ l q ∧ q < l.length ∧ (fullF f l p).drop i = fullF (l.length - q) l q) ∧ (match (fullF f l p)[i + 1]? with | some c' => c'.at_ = c.at_ + c.n | none => (l.length : Int) = c.at_ + c.n)
  | 0, l, p, _, i, c, h => by simp [fullF] at h
  | f + 1, l, p, hf, i, c, h => by
    by_cases hp : p < l.length
    · have hw := dec_pos l p hp
      have hfit := dec_fit l p hp
      have fuel : ∀ (f g p : Nat), l.length ≤ p + f → l.length ≤ p + g → fullF f l p = fullF g l p := by
        intro f
        induction f with
        | zero => intro g p h1 _; rw [full_nil (by omega), full_nil (by omega)]
        | succ f ih =>
          intro g p h1 h2
          by_cases hq : p < l.length
          · have hw := dec_pos l p hq
            cases g with
            | zero => omega
            | succ g => rw [full_cons hq, full_cons hq, ih g _ (by omega) (by omega)]
          · rw [full_nil hq, full_nil hq]
      cases i with
      | zero =>
        have hfe := fuel (f + 1) (l.length - p) p hf (by omega)
        rw [full_cons hp] at h ⊢
        have hc : chr_ l p = c := by simpa using h
        subst hc
        refine ⟨⟨p, rfl, hp, by rw [← hfe, full_cons hp]; rfl⟩, ?_⟩
        simp only [List.getElem?_cons_succ]
        by_cases hq : p + (Utf8.decode (bytesOf l) p).2 < l.length
        · cases f with
          | zero => omega
          | succ f => rw [full_cons hq]; simp [chr_]
        · rw [full_nil hq]
          simp [chr_]; omega
      | succ i =>
        rw [full_cons hp] at h ⊢
        have := full_next f l (p + (Utf8.decode (bytesOf l) p).2) (by omega) i c (by simpa using h)
        simpa using this
    · rw [full_nil hp] at h; simp at h
theorem full_bd : ∀ (f : Nat) (l : List UInt8) (p : Nat), (fullF f l p).length ≤ f
  | 0, _, _ => Nat.le_refl _
  | f + 1, l, p => by
    unfold fullF
    split
    · have := full_bd f l (p + (Utf8.decode (bytesOf l) p).2)
      simp; omega
    · simp
def mixS (F : List CharS) (i : Nat) : List CharS := F.take i ++ (F.drop i).map rawC
theorem mix_len (F : List CharS) (i : Nat) : (mixS F i).length = F.length := by simp [mixS]; omega
theorem mix_hi {F : List CharS} {i j : Nat} {c : CharS} (hj : i ≤ j) (h : F[j]? = some c) : (mixS F i)[j]? = some (rawC c) := by
  have hl := (List.getElem?_eq_some_iff.1 h).1
  unfold mixS
  rw [List.getElem?_append_right (by simp; omega), List.getElem?_map, List.getElem?_drop]
  rw [show i + (j - (F.take i).length) = j by simp; omega, h]
  rfl
theorem mix_set {F : List CharS} {i : Nat} {c : CharS} (h : F[i]? = some c) : (mixS F i).set i c = mixS F (i + 1) := by
  have hl := (List.getElem?_eq_some_iff.1 h).1
  unfold mixS
  rw [drop_at h, List.map_cons, List.set_append_right _ _ (by simp; omega), take_push h]
  simp [show i - min i F.length = 0 by omega]
theorem mix_0 (F : List CharS) : mixS F 0 = F.map rawC := by simp [mixS]
theorem mix_all {F : List CharS} {i : Nat} (h : F.length ≤ i) : mixS F i = F := by unfold mixS; rw [List.take_of_length_le h, List.drop_eq_nil_of_le h]; simp
theorem chr_ctrl {l : List UInt8} {p : Nat} (hp : p < l.length) : ((chr_ l p).bad || ctrlS (chr_ l p).r) = (ctrlS ((Utf8.decode (bytesOf l) p).1 : Int) || (decide (((Utf8.decode (bytesOf l) p).1 : Int) = 65533) && badS l p)) := by
  rw [bad_eq hp]
  unfold chr_
  cases h : decide (((Utf8.decode (bytesOf l) p).1 : Int) = 65533) <;> cases h2 : decide (((Utf8.decode (bytesOf l) p).2 : Int) = 1) <;> simp
/-- the two plain texts are one -/
theorem plain_full : ∀ (f : Nat) (l : List UInt8) (p : Nat), plainF f l p = match (fullF f l p).find? (fun c => c.bad || ctrlS c.r) with | some c => (c.at_, false) | none => (0, true)
  | 0, _, _ => rfl
  | f + 1, l, p => by
    by_cases hp : p < l.length
    · rw [full_cons hp, List.find?_cons, chr_ctrl hp, plainF, if_pos hp]
      split
      · rename_i h; rw [h]; rfl
      · rename_i h
        have h' : (ctrlS ((Utf8.decode (bytesOf l) p).1 : Int) || (decide (((Utf8.decode (bytesOf l) p).1 : Int) = 65533) && badS l p)) = false := by simpa using h
        rw [h']
        exact plain_full f l _
    · rw [full_nil hp, plainF, if_neg hp]; rfl
theorem plainS_full (l : List UInt8) : plainS l = match (charsS l).find? (fun c => c.bad || ctrlS c.r) with | some c => (c.at_, false) | none => (0, true) := plain_full _ _ _
theorem find_at {F : List CharS} {j : Nat} {c : CharS} {p : CharS → Bool} (h : ∀ i x, i < j → F[i]? = some x → p x = false) (hc : F[j]? = some c) (hp : p c = true) : F.find? p = some c := by
  have h1 : F = F.take j ++ c :: F.drop (j + 1) := by rw [← drop_at hc, List.take_append_drop]
  rw [h1, List.find?_append, List.find?_eq_none.2, List.find?_cons]
  · simp [hp]
  · intro x hx
    obtain ⟨i, hi⟩ := List.getElem?_of_mem hx
    rw [List.getElem?_take] at hi
    split at hi
    · simp [h i x (by assumption) hi]
    · cases hi
theorem find_none {F : List CharS} {p : CharS → Bool} (h : ∀ i x, i < F.length → F[i]? = some x → p x = false) : F.find? p = none := by
  rw [List.find?_eq_none]
  intro x hx
  obtain ⟨i, hi⟩ := List.getElem?_of_mem hx
  simp [h i x (List.getElem?_eq_some_iff.1 hi).1 hi]
theorem none_snoc {F : List CharS} {j : Nat} {c : CharS} {p : CharS → Bool} (h : ∀ i x, i < j → F[i]? = some x → p x = false) (hc : F[j]? = some c) (hp : p c = false) : ∀ i x, i < j + 1 → F[i]? = some x → p x = false := by
  intro i x hi hx
  by_cases hij : i = j
  · subst hij; rw [hc] at hx; injection hx with hx; subst hx; exact hp
  · exact h i x (by omega) hx

end Go.Proofs.YtpaecijilnfkhaaDoor
