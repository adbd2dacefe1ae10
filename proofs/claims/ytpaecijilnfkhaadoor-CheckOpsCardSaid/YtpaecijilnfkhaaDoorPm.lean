/- Plain facts: what the depths of a walk are. -/
import Derived.Test.YtpaecijilnfkhaaDoorPl

namespace Go.Proofs.YtpaecijilnfkhaaDoor
open Go Go.Eng Go.RowKit

/-! what the depths of a walk are -/
structure DsOk (ds : List Int) (d : Nat) (ns : Int) : Prop where
  nonneg : ∀ x ∈ ds, 0 ≤ x ∧ x ≤ ns
  dle : (d : Int) ≤ ns
  adj : ∀ i x y, ds[i]? = some x → ds[i + 1]? = some y → y - x ≤ 1 ∧ x - y ≤ 1
  last : ∀ x, ds[ds.length - 1]? = some x → (d : Int) - x ≤ 1 ∧ x - (d : Int) ≤ 1
  top : ns = 0 ∨ ns = d ∨ ns ∈ ds
  nil : ds = [] → d = 0
  first : ∀ x, ds[0]? = some x → x = 0
theorem DsOk.zero : DsOk [] 0 0 := ⟨fun x hx => absurd hx (by simp), by omega, fun i x y h => absurd h (by simp), fun x h => absurd h (by simp), .inl rfl, fun _ => rfl, fun x h => absurd h (by simp)⟩
theorem DsOk.step {ds : List Int} {d d' : Nat} {ns : Int} (h : DsOk ds d ns) (h1 : d' ≤ d + 1) (h2 : d ≤ d' + 1) : DsOk (ds ++ [(d : Int)]) d' (max ns d') := by
  have hd := h.dle
  refine ⟨fun x hx => ?_, by omega, fun i x y hx hy => ?_, fun x hx => ?_, ?_, fun h0 => absurd h0 (by simp), fun x hx => ?_⟩
  · rcases List.mem_append.1 hx with hx | hx
    · have := h.nonneg x hx; omega
    · have : x = d := by simpa using hx
      omega
  · by_cases hi : i + 1 < ds.length
    · rw [List.getElem?_append_left (by omega)] at hx hy
      exact h.adj i x y hx hy
    · by_cases he : i + 1 = ds.length
      · rw [List.getElem?_append_left (by omega)] at hx
        rw [List.getElem?_append_right (by omega), he, Nat.sub_self] at hy
        have hy' : (d : Int) = y := by simpa using hy
        have := h.last x (by rw [← he, Nat.add_sub_cancel]; exact hx)
        omega
      · rw [List.getElem?_eq_none (by simp; omega)] at hy
        cases hy
  · have : (ds ++ [(d : Int)])[ds.length]? = some (d : Int) := by simp
    rw [List.length_append, List.length_singleton, Nat.add_sub_cancel, this] at hx
    injection hx with hx
    omega
  · by_cases hm : ns < d'
    · exact .inr (.inl (by omega))
    · have : max ns (d' : Int) = ns := by omega
      rw [this]
      rcases h.top with h0 | h0 | h0
      · exact .inl h0
      · exact .inr (.inr (by rw [h0]; simp))
      · exact .inr (.inr (List.mem_append_left _ h0))
  · rcases ds with _ | ⟨y, r⟩
    · have : d = 0 := h.nil rfl
      subst this
      have hx' : (0 : Int) = x := by simpa using hx
      exact hx'.symm
    · exact h.first x (by simpa using hx)
theorem halt_depth {k : WalkS} {i : InstrS} {m : Nat} (ok : WOk k m) (h : (stepS k i).1 = 0) (hk : i.kind = 15) : k.depth = 0 := by
  unfold stepS at h
  split at h
  · exact absurd (show (161 : Int) = 0 from h) (by decide)
  · split at h
    · exact absurd (show (170 : Int) = 0 from h) (by decide)
    · rename_i c2
      have h2 : (placeS k i.kind i.widths.length).1 = true := by simpa using c2
      rw [hk] at h2
      unfold placeS at h2
      split at h2
      · exact absurd (show false = true from h2) (by decide)
      · rename_i hp
        have ho := ok.out hp
        obtain ⟨st, d, p, ma, li, la, s, sy, tp⟩ := k
        have hlen := ok.len
        dsimp only at ho hlen ⊢
        rcases d with _ | n
        · rfl
        · obtain ⟨f, hff⟩ : ∃ f, st[n]? = some f := ⟨_, List.getElem?_eq_getElem (by omega)⟩
          unfold outerS at h2
          rw [top_1 hff] at h2
          exact absurd (show false = true from h2) (by decide)
theorem halt_next {k : WalkS} {i : InstrS} {m : Nat} (ok : WOk k m) (h : (stepS k i).1 = 0) (hk : i.kind = 15) : (stepS k i).2.depth = 0 := by
  have h0 := halt_depth ok h hk
  have hp : (placeS k i.kind i.widths.length).2.depth = k.depth := by
    rw [hk]
    unfold placeS
    split
    · rfl
    · unfold outerS
      rw [show k.top = none by rw [WalkS.top, if_pos h0]]
      rfl
  have ht : ∀ k2 : WalkS, (textsS k2 i.kind i.n).2.depth = k2.depth := fun k2 => by
    rw [textsS, if_pos hk]
  unfold stepS at h ⊢
  split at h
  · exact absurd (show (161 : Int) = 0 from h) (by decide)
  · rename_i c1
    split at h
    · exact absurd (show (170 : Int) = 0 from h) (by decide)
    · rename_i c2
      split at h
      · exact absurd (show (171 : Int) = 0 from h) (by decide)
      · rename_i c3
        rw [if_neg c1, if_neg c2, if_neg c3]
        dsimp only
        rw [ht, hp, h0]
theorem runF_ok {ni nb : Int} : ∀ (l : List InstrS) (k : WalkS) (m : Nat) (nl np ns : Int) (ds : List Int), WOk k m → DsOk ds k.depth ns → ns ≤ 25 → (runF ni nb l k nl np ns ds).e = 0 →
    (runF ni nb l k nl np ns ds).ds.length = ds.length + l.length ∧ (runF ni nb l k nl np ns ds).ni = ni ∧ (runF ni nb l k nl np ns ds).ns ≤ 25 ∧
    ∃ d, DsOk (runF ni nb l k nl np ns ds).ds d (runF ni nb l k nl np ns ds).ns ∧ (∀ a i, l = a ++ [i] → i.kind = 15 → d = 0 ∧ (runF ni nb l k nl np ns ds).ds[(runF ni nb l k nl np ns ds).ds.length - 1]? = some 0)
  | [], k, m, nl, np, ns, ds, _, hd, hn, _ => ⟨rfl, rfl, hn, k.depth, hd, fun a i h => absurd h (by simp)⟩
  | i :: r, k, m, nl, np, ns, ds, ok, hd, hn, he => by
    by_cases hst : (stepS k i).1 = 0
    · have h2 := step_ok ok hst
      have hdl := h2.ok.depth_le
      have hr : runF ni nb (i :: r) k nl np ns ds = runF ni nb r (stepS k i).2 (if i.kind = 3 ∨ i.kind = 4 then nl + 1 else nl) (if i.kind = 8 then np + 1 else np) (max ns (stepS k i).2.depth) (ds ++ [(k.depth : Int)]) := by
        rw [runF, if_neg (show ¬ (stepS k i).1 ≠ 0 by simpa using hst)]
      rw [hr] at he ⊢
      have hd2 := hd.step h2.by1.1 h2.by1.2
      obtain ⟨g1, g2, g3, d, g4, g5⟩ := runF_ok r (stepS k i).2 (m + 1) _ _ _ _ h2.ok hd2 (by omega) he
      rcases r with _ | ⟨i2, r⟩
      · refine ⟨by rw [g1]; simp, g2, g3, (stepS k i).2.depth, hd2, fun a i' hl hk => ?_⟩
        rcases a with _ | ⟨a0, a⟩
        · have hl' : i = i' := by simpa using hl
          subst hl'
          have h0 := halt_depth ok hst hk
          have hl0 : (ds ++ [(k.depth : Int)])[(ds ++ [(k.depth : Int)]).length - 1]? = some 0 := by rw [h0]; simp
          exact ⟨halt_next ok hst hk, hl0⟩
        · exact absurd hl (by simp)
      · refine ⟨by rw [g1]; simp; omega, g2, g3, d, g4, fun a i' hl hk => ?_⟩
        rcases a with _ | ⟨a0, a⟩
        · exact absurd hl (by simp)
        · have hl' : i = a0 ∧ i2 :: r = a ++ [i'] := by simpa using hl
          exact g5 a i' hl'.2 hk
    · rw [runF, if_pos hst] at he
      exact absurd he hst
theorem instrsF_last : ∀ (f : Nat) (b : List UInt8) (k : Nat), (instrsF f b k).2.2 = 0 → ∃ a i, (instrsF f b k).1 = a ++ [i] ∧ i.kind = 15
  | 0, b, k, h => absurd (show (162 : Int) = 0 from h) (by decide)
  | f + 1, b, k, h => by
    unfold instrsF at h ⊢
    split at h
    · rename_i c1
      rw [if_pos c1]
      split at h
      · rename_i c2; exact absurd h c2
      · rename_i c2
        rw [if_neg c2]
        split at h
        · rename_i c3
          rw [if_pos c3]
          split at h
          · exact absurd (show (162 : Int) = 0 from h) (by decide)
          · rename_i c4
            rw [if_neg c4]
            exact ⟨[], _, rfl, c3⟩
        · rename_i c3
          rw [if_neg c3]
          unfold ahead at h ⊢
          split at h
          · rename_i c4
            rw [if_pos c4]
            obtain ⟨a, i, h1, h2⟩ := instrsF_last f b _ c4
            exact ⟨_ :: a, i, by rw [h1]; rfl, h2⟩
          · rename_i c4; exact absurd h c4
    · exact absurd (show (162 : Int) = 0 from h) (by decide)
theorem instrs_last {b : List UInt8} (h : (instrsS b).2.2 = 0) : ∃ a i, (instrsS b).1 = a ++ [i] ∧ i.kind = 15 := by
  unfold instrsS at h ⊢
  split at h
  · exact absurd (show (2 : Int) = 0 from h) (by decide)
  · rename_i c; rw [if_neg c]; exact instrsF_last _ _ _ h
/-- What CheckDepths asks. -/
theorem depths_ok {b s : List UInt8} {sty tp : Int} (h : (runS b s sty tp).e = 0) :
    0 < (runS b s sty tp).ds.length ∧ ((runS b s sty tp).ds.length : Int) = (runS b s sty tp).ni + 1 ∧ (runS b s sty tp).ns ≤ 25 ∧ (runS b s sty tp).ds[0]? = some 0 ∧
    (runS b s sty tp).ds[(runS b s sty tp).ds.length - 1]? = some 0 ∧ (∃ d, DsOk (runS b s sty tp).ds d (runS b s sty tp).ns ∧ d = 0) ∧ (runS b s sty tp).ni ≤ 65536 := by
  unfold runS at h ⊢
  split at h
  · exact absurd (show (2 : Int) = 0 from h) (by decide)
  · rename_i c1
    split at h
    · rename_i c2; exact absurd h c2
    · rename_i c2
      split at h
      · exact absurd (show (2 : Int) = 0 from h) (by decide)
      · rename_i c3
        rw [if_neg c1, if_neg c2, if_neg c3]
        obtain ⟨g1, g2, g3, d, g4, g5⟩ := runF_ok (instrsS b).1 (walk0 s sty tp) 0 0 0 0 [] walk0_ok DsOk.zero (by decide) h
        obtain ⟨a, i, h1, h2⟩ := instrs_last (b := b) (by simpa using c2)
        obtain ⟨g6, g7⟩ := g5 a i h1 h2
        have hlen : 0 < (instrsS b).1.length := by rw [h1]; simp
        have g1' := g1
        rw [List.length_nil, Nat.zero_add] at g1'
        refine ⟨by omega, by omega, g3, ?_, g7, ⟨d, g4, g6⟩, by omega⟩
        obtain ⟨x, hx⟩ : ∃ x, (runF (((instrsS b).1.length : Int) - 1) s.length (instrsS b).1 (walk0 s sty tp) 0 0 0 []).ds[0]? = some x := ⟨_, List.getElem?_eq_getElem (by omega)⟩
        rw [hx, g4.first x hx]
theorem depths_okM {b s : List UInt8} {sty tp : Int} {M : RunR} (hM : measS (runS b s sty tp) = M) (h : M.e = 0) :
    0 < M.ds.length ∧ (M.ds.length : Int) = M.ni + 1 ∧ M.ns ≤ 25 ∧ M.ds[0]? = some 0 ∧ M.ds[M.ds.length - 1]? = some 0 ∧ (∃ d, DsOk M.ds d M.ns ∧ d = 0) ∧ M.ni ≤ 65536 := by
  subst hM
  by_cases he : (runS b s sty tp).e = 0
  · have hm : measS (runS b s sty tp) = ⟨(runS b s sty tp).ni, (runS b s sty tp).nb, (runS b s sty tp).nl, (runS b s sty tp).np, (runS b s sty tp).ns, (runS b s sty tp).ds, (runS b s sty tp).at_, 0⟩ := if_neg (by omega)
    rw [hm]
    exact depths_ok he
  · have hm : measS (runS b s sty tp) = ⟨0, 0, 0, 0, 0, [], 0, (runS b s sty tp).e⟩ := if_pos he
    rw [hm] at h
    exact absurd h he
def mxS (l : List Int) : Int := l.foldl max 0
theorem mx_snoc {l : List Int} {j : Nat} {x : Int} (h : l[j]? = some x) : mxS (l.take (j + 1)) = max (mxS (l.take j)) x := by
  rw [List.take_add_one, h, mxS, mxS]
  simp
theorem mx_ge {l : List Int} (a : Int) : a ≤ l.foldl max a ∧ (∀ x ∈ l, x ≤ l.foldl max a) ∧ (l.foldl max a = a ∨ l.foldl max a ∈ l) := by
  induction l generalizing a with
  | nil => exact ⟨Int.le_refl _, fun x hx => absurd hx (by simp), .inl rfl⟩
  | cons y r ih =>
    obtain ⟨h1, h2, h3⟩ := ih (max a y)
    rw [List.foldl_cons]
    refine ⟨by omega, fun x hx => ?_, ?_⟩
    · rcases List.mem_cons.1 hx with rfl | hx
      · omega
      · exact h2 x hx
    · rcases h3 with h3 | h3
      · by_cases c : a < y
        · exact .inr (List.mem_cons.2 (.inl (by omega)))
        · exact .inl (by omega)
      · exact .inr (List.mem_cons_of_mem _ h3)
theorem mx_top {ds : List Int} {ns : Int} (h : DsOk ds 0 ns) : mxS ds = ns := by
  obtain ⟨h1, h2, h3⟩ := mx_ge (l := ds) 0
  have hd := h.dle
  unfold mxS
  rcases h3 with h3 | h3
  · rcases h.top with h0 | h0 | h0
    · omega
    · omega
    · have := h2 _ h0; omega
  · have h4 := h.nonneg _ h3
    rcases h.top with h0 | h0 | h0
    · omega
    · omega
    · have := h2 _ h0; omega

end Go.Proofs.YtpaecijilnfkhaaDoor
