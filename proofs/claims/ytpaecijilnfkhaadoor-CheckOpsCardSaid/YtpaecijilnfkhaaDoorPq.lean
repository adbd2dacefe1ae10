/- Plain words: lines. -/
import Derived.Lib.ItoaLen
import Derived.Test.YtpaecijilnfkhaaDoorPe
import Derived.Test.YtpaecijilnfkhaaDoorLib

namespace Go.Proofs.YtpaecijilnfkhaaDoor
open Go Go.Eng Go.RowKit

deriving instance DecidableEq for InstrS
deriving instance DecidableEq for OpS
section
variable {α : Type} [DecidableEq α] {l m : List α} {j : Nat} {x y : α}
theorem lst_len (h : (l.length : Int) ≠ m.length) : decide (l = m) = false := decide_eq_false fun e => h (by rw [e])
theorem lst_ne (hx : l[j]? = some x) (hy : m[j]? = some y) (h : x ≠ y) : decide (l = m) = false := decide_eq_false fun e => by
  subst e; rw [hx] at hy; exact h (Option.some.inj hy)
theorem lst_eq (h : l.take j = m.take j) (hl : l.length ≤ j) (hm : m.length ≤ j) : decide (l = m) = true := by
  rw [List.take_of_length_le hl, List.take_of_length_le hm] at h; exact decide_eq_true h
end
theorem lst_snoc {α : Type} {l m : List α} {j : Nat} {x y : α} (h : l.take j = m.take j) (hx : l[j]? = some x) (hy : m[j]? = some y) (e : x = y) : l.take (j + 1) = m.take (j + 1) := by
  subst e; rw [List.take_add_one, List.take_add_one, h, hx, hy]
theorem map_get {α β : Type} {f : α → β} {l : List α} {j : Nat} {x : α} (h : l[j]? = some x) : (l.map f)[j]? = some (f x) := by simp [h]
theorem take_push {α : Type} {l : List α} {j : Nat} {x : α} (h : l[j]? = some x) : l.take (j + 1) = l.take j ++ [x] := by rw [List.take_add_one, h]; rfl

/-! lines -/
def namesL : List (List UInt8) := [[], [116, 101, 120, 116], [115, 116, 121, 108, 101], [108, 105, 110, 107], [110, 111, 116, 101], [99, 108, 111, 115, 101], [116, 97, 98], [98, 114, 101, 97, 107], [112, 97, 114, 97], [100, 111, 110, 101], [108, 105, 115, 116], [105, 116, 101, 109], [116, 97, 98, 108, 101], [114, 111, 119], [101, 110, 100], [104, 97, 108, 116]]
def nameS (k : Int) : List UInt8 := namesL.getD k.toNat []
theorem name_get {k : Nat} (h : k < 16) : namesL[k]? = some (nameS k) := by
  rcases k with _|_|_|_|_|_|_|_|_|_|_|_|_|_|_|_|k
  all_goals first | rfl | (exfalso; omega)
theorem name_len (k : Int) : (nameS k).length ≤ 5 := by
  by_cases h : k.toNat < 16
  · unfold nameS
    generalize k.toNat = k at h
    rcases k with _|_|_|_|_|_|_|_|_|_|_|_|_|_|_|_|k
    all_goals first | decide | (exfalso; omega)
  · have : nameS k = [] := by
      unfold nameS
      rw [List.getD_eq_getElem?_getD, List.getElem?_eq_none (by show 16 ≤ _; omega)]; rfl
    rw [this]; decide
def numbS (k : Int) : Bool := decide ((1 ≤ k ∧ k ≤ 4) ∨ k = 8 ∨ k = 10)
def wordsS (l : List Int) : List UInt8 := l.flatMap fun x => 32 :: Lib.itoa x
def headS (i : InstrS) : List UInt8 := Lib.itoa i.at_ ++ [32] ++ nameS i.kind ++ (if numbS i.kind = true then 32 :: Lib.itoa i.n else [])
def lineS (i : InstrS) : List UInt8 := headS i ++ wordsS i.widths
theorem head_1 {i : InstrS} (h : numbS i.kind = true) : headS i = Lib.itoa i.at_ ++ [32] ++ nameS i.kind ++ ([32] ++ Lib.itoa i.n) := by rw [headS, if_pos h]; rfl
theorem head_0 {i : InstrS} (h : numbS i.kind = false) : headS i = Lib.itoa i.at_ ++ [32] ++ nameS i.kind := by rw [headS, if_neg (by rw [h]; decide), List.append_nil]
theorem words_snoc {l : List Int} {j : Nat} {x : Int} (h : l[j]? = some x) : wordsS (l.take (j + 1)) = wordsS (l.take j) ++ ([32] ++ Lib.itoa x) := by
  rw [take_push h]; simp [wordsS]
theorem words_all {l : List Int} {j : Nat} (h : l.length ≤ j) : wordsS (l.take j) = wordsS l := by rw [List.take_of_length_le h]

/-- What is laid of an instruction that was read. -/
structure InstrL (i : InstrS) : Prop where
  at_ : 0 ≤ i.at_ ∧ i.at_ ≤ 1048576
  kind : 1 ≤ i.kind ∧ i.kind ≤ 15
  n : -1 ≤ i.n ∧ i.n ≤ 2147483648
  wl : i.widths.length ≤ 16
  w : ∀ x ∈ i.widths, 0 ≤ x ∧ x ≤ 255
  text : i.kind = 1 → 1 ≤ i.n ∧ i.widths = []
theorem ints_bd {l : List UInt8} {x : Int} (h : x ∈ ints l) : 0 ≤ x ∧ x ≤ 255 := by
  obtain ⟨b, _, rfl⟩ := List.mem_map.1 h
  have := b.toNat_lt
  omega
theorem fin_L {b : List UInt8} {at_ long kind n : Int} (ha : 0 ≤ at_ ∧ at_ ≤ 1048576) (hk : 1 ≤ kind ∧ kind ≤ 15) (hn : 0 ≤ n ∧ n ≤ 2147483647) (h : (finS b at_ long kind n).2 = 0) : InstrL (finS b at_ long kind n).1 := by
  by_cases k1 : kind = 1
  · by_cases h2 : 16383 < n
    · rw [fin_textE k1 h2] at h; simp at h
    · rw [fin_text k1 h2]
      exact ⟨ha, hk, by dsimp only; omega, by simp, by simp, fun _ => ⟨by dsimp only; omega, rfl⟩⟩
  · by_cases k2 : kind = 2 ∨ kind = 3 ∨ kind = 4 ∨ kind = 10
    · rw [fin_num k2]
      exact ⟨ha, hk, by dsimp only; omega, by simp, by simp, fun hh => absurd hh k1⟩
    · by_cases k3 : kind = 8
      · rw [fin_para k3]
        exact ⟨ha, hk, by dsimp only; omega, by simp, by simp, fun hh => absurd hh k1⟩
      · by_cases k4 : kind = 12
        · by_cases h2 : 16 ≤ n
          · rw [fin_tabE k4 h2] at h; simp at h
          · by_cases h3 : (b.length : Int) - (at_ + long) < n + 1
            · rw [fin_tabT k4 h2 h3] at h; simp at h
            · rw [fin_tab k4 h2 h3]
              exact ⟨ha, hk, by dsimp only; omega, by dsimp only; rw [ints_length, List.length_take]; omega, fun x hx => ints_bd hx, fun hh => absurd hh k1⟩
        · by_cases h2 : n ≠ 0
          · rw [fin_nE (by omega) h2] at h; simp at h
          · rw [fin_n0 (by omega) (by omega)]
            exact ⟨ha, hk, by dsimp only; omega, by simp, by simp, fun hh => absurd hh k1⟩
theorem next_L {b : List UInt8} {k : Nat} (hb : k ≤ 1048576) (h : (nextS b (k : Int)).2 = 0) : InstrL (nextS b (k : Int)).1 := by
  by_cases hk : k < b.length
  · obtain ⟨x, hx⟩ : ∃ x, b[k]? = some x := ⟨_, List.getElem?_eq_getElem hk⟩
    have hnb := numL_bd (b.drop (k + 1))
    have hxb : x.toNat < 256 := x.toNat_lt
    by_cases h1 : x.toNat / 16 = 0
    · rw [next_op0 hx h1] at h; simp at h
    · by_cases h2 : x.toNat % 16 = 15
      · by_cases h3 : numE (b.drop (k + 1)) ≠ 0
        · rw [next_err hx h1 h2 h3] at h; exact absurd h h3
        · by_cases h4 : 2147483632 < numV (b.drop (k + 1))
          · rw [next_big hx h1 h2 h3 h4] at h; simp at h
          · rw [next_long hx h1 h2 h3 h4] at h ⊢
            exact fin_L (by omega) (by omega) (by omega) h
      · rw [next_short hx h1 h2] at h ⊢
        exact fin_L (by omega) (by omega) (by omega) h
  · rw [next_rng (by omega)] at h; simp at h
theorem instrsF_L : ∀ (f : Nat) (b : List UInt8) (k : Nat), b.length ≤ 1048576 → ∀ i ∈ (instrsF f b k).1, InstrL i
  | 0, b, k, _ => fun i hi => absurd hi (by simp [instrsF])
  | f + 1, b, k, hb => by
    unfold instrsF
    split
    · rename_i hk
      split
      · exact fun i hi => absurd hi (by simp)
      · rename_i he
        have hg := next_L (b := b) (k := k) (by omega) (by simpa using he)
        split
        · split
          · exact fun i hi => absurd hi (by simp)
          · exact fun i hi => by rw [List.mem_singleton.1 hi]; exact hg
        · have ih := instrsF_L f b (k + (nextS b (k : Int)).1.long.toNat) hb
          unfold ahead
          split
          · exact fun i hi => by rcases List.mem_cons.1 hi with rfl | hi; exact hg; exact ih i hi
          · exact ih
    · exact fun i hi => absurd hi (by simp)
theorem instrs_L (b : List UInt8) : ∀ i ∈ (instrsS b).1, InstrL i := by
  unfold instrsS
  split
  · exact fun i hi => absurd hi (by simp)
  · exact instrsF_L _ _ _ (by omega)
theorem of_map {b : List UInt8} {M : List (InstrS × Option Addr × Nat)} (h : M.map (·.1) = (instrsS b).1) {j : Nat} {q : InstrS × Option Addr × Nat} (hq : M[j]? = some q) : InstrL q.1 :=
  instrs_L b q.1 (by rw [← h]; exact List.mem_map.2 ⟨q, List.mem_of_getElem? hq, rfl⟩)
/-- a listing -/
def listS (b : List UInt8) : List (List UInt8) × Int × Int := if (instrsS b).2.2 ≠ 0 then ([], (instrsS b).2) else ((instrsS b).1.map lineS, 0, 0)

/-! operations again -/
def decF : List InstrS → List UInt8 → List OpS → List OpS × Int × Int
  | [], _, out => (out, 0, 0)
  | i :: r, s, out =>
    if i.kind = 15 then (if s ≠ [] then ([], i.at_, 162) else decF r s out)
    else if i.kind = 1 then (if (s.length : Int) < i.n then ([], i.at_, 162) else decF r (s.drop i.n.toNat) (out ++ [⟨1, 0, s.take i.n.toNat, []⟩]))
    else decF r s (out ++ [⟨i.kind, i.n, [], i.widths⟩])
def decS (b s : List UInt8) : List OpS × Int × Int := if (instrsS b).2.2 ≠ 0 then ([], (instrsS b).2) else decF (instrsS b).1 s []
section
variable {l : List InstrS} {j : Nat} {i : InstrS} {s : List UInt8} {out : List OpS} {R : List OpS × Int × Int}
theorem dec_end (h : decF (l.drop j) s out = R) (hj : l.length ≤ j) : R = (out, 0, 0) := by rw [← h, List.drop_eq_nil_of_le hj, decF]
theorem dec_halt (h : decF (l.drop j) s out = R) (hi : l[j]? = some i) (hk : i.kind = 15) (hs : s ≠ []) : R = ([], i.at_, 162) := by rw [← h, drop_at hi, decF, if_pos hk, if_pos hs]
theorem dec_go (h : decF (l.drop j) s out = R) (hi : l[j]? = some i) (hk : i.kind = 15) (hs : ¬ s ≠ []) : decF (l.drop (j + 1)) s out = R := by rw [← h, drop_at hi, decF, if_pos hk, if_neg hs]
theorem dec_short (h : decF (l.drop j) s out = R) (hi : l[j]? = some i) (hk : i.kind = 1) (hs : (s.length : Int) < i.n) : R = ([], i.at_, 162) := by rw [← h, drop_at hi, decF, if_neg (by omega), if_pos hk, if_pos hs]
theorem dec_text (h : decF (l.drop j) s out = R) (hi : l[j]? = some i) (hk : i.kind = 1) (hs : ¬ (s.length : Int) < i.n) : decF (l.drop (j + 1)) (s.drop i.n.toNat) (out ++ [⟨1, 0, s.take i.n.toNat, []⟩]) = R := by
  rw [← h, drop_at hi, decF, if_neg (by omega), if_pos hk, if_neg hs]
theorem dec_else (h : decF (l.drop j) s out = R) (hi : l[j]? = some i) (h15 : ¬ i.kind = 15) (hk : ¬ i.kind = 1) : decF (l.drop (j + 1)) s (out ++ [⟨i.kind, i.n, [], i.widths⟩]) = R := by
  rw [← h, drop_at hi, decF, if_neg h15, if_neg hk]
end

theorem next_zero {b : List UInt8} {k : Nat} (h : (nextS b (k : Int)).2 ≠ 0) : (nextS b (k : Int)).1 = zeroI := by
  by_cases hk : k < b.length
  · obtain ⟨x, hx⟩ : ∃ x, b[k]? = some x := ⟨_, List.getElem?_eq_getElem hk⟩
    have hf : ∀ kd n m : Int, (finS b k n kd m).2 ≠ 0 → (finS b k n kd m).1 = zeroI := by
      intro kd n m
      unfold finS
      repeat' split
      all_goals first | exact fun _ => rfl | exact fun h => absurd rfl h
    by_cases h1 : x.toNat / 16 = 0
    · rw [next_op0 hx h1]
    · by_cases h2 : x.toNat % 16 = 15
      · by_cases h3 : numE (b.drop (k + 1)) ≠ 0
        · rw [next_err hx h1 h2 h3]
        · by_cases h4 : 2147483632 < numV (b.drop (k + 1))
          · rw [next_big hx h1 h2 h3 h4]
          · rw [next_long hx h1 h2 h3 h4] at h ⊢
            exact hf _ _ _ h
      · rw [next_short hx h1 h2] at h ⊢
        exact hf _ _ _ h
  · rw [next_rng (by omega)]
theorem decF_good : ∀ (l : List InstrS) (s : List UInt8) (out : List OpS), (∀ i ∈ l, i.widths.length ≤ 1048576) → (∀ o ∈ out, o.widths.length ≤ 1048576) → (decF l s out).1.length ≤ out.length + l.length ∧ ∀ o ∈ (decF l s out).1, o.widths.length ≤ 1048576
  | [], s, out, _, ho => ⟨Nat.le_refl _, ho⟩
  | i :: r, s, out, hi, ho => by
    have hr : ∀ i ∈ r, i.widths.length ≤ 1048576 := fun j hj => hi j (List.mem_cons_of_mem _ hj)
    have hz : ([] : List OpS).length ≤ out.length + (i :: r).length ∧ ∀ o ∈ ([] : List OpS), o.widths.length ≤ 1048576 := ⟨Nat.zero_le _, fun o h => absurd h (by simp)⟩
    have ha : ∀ o : OpS, o.widths.length ≤ 1048576 → ∀ q ∈ out ++ [o], q.widths.length ≤ 1048576 := fun o h q hq => by
      rcases List.mem_append.1 hq with hq | hq
      · exact ho q hq
      · rw [List.mem_singleton.1 hq]; exact h
    unfold decF
    split
    · split
      · exact hz
      · have := decF_good r s out hr ho
        exact ⟨by simp; omega, this.2⟩
    · split
      · split
        · exact hz
        · have := decF_good r (s.drop i.n.toNat) (out ++ [⟨1, 0, s.take i.n.toNat, []⟩]) hr (ha _ (Nat.zero_le _))
          exact ⟨by have h1 := this.1; simp at h1 ⊢; omega, this.2⟩
      · have := decF_good r s (out ++ [⟨i.kind, i.n, [], i.widths⟩]) hr (ha _ (hi i (List.mem_cons_self ..)))
        exact ⟨by have h1 := this.1; simp at h1 ⊢; omega, this.2⟩
theorem dec_good (b s : List UInt8) : (decS b s).1.length ≤ 1048576 ∧ ∀ o ∈ (decS b s).1, o.widths.length ≤ 1048576 := by
  unfold decS
  have hg := instrs_good b
  split
  · exact ⟨Nat.zero_le _, fun o h => absurd h (by simp)⟩
  · have := decF_good (instrsS b).1 s [] (fun i hi => (hg.1 i hi).2) (fun o h => absurd h (by simp))
    exact ⟨by have h1 := this.1; simp at h1; omega, this.2⟩

end Go.Proofs.YtpaecijilnfkhaaDoor
