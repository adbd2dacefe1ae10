/-
  With a bound on every loop: what is reckoned so, is so.
-/
import Derived.Test.YtkfcinmgebhbhaaDoorQSnd21
namespace Go.Lf
open Go

def Le {α : Type} (x y : Option α) : Prop := ∀ r, x = some r → y = some r
def onSum {α β γ : Type} (d : α ⊕ β) (f : α → γ) (g : β → γ) : γ := match d with
  | .inl a => f a
  | .inr b => g b
noncomputable def loopF (n : Nat) {σ κ : Type} (B : σ → Option (σ ⊕ κ)) (z : σ) : Option κ := iter B n z
section
variable {α β γ σ κ : Type}
theorem Le.refl {x : Option α} : Le x x := fun _ h => h
theorem Le.trans {x y z : Option α} (h : Le x y) (h' : Le y z) : Le x z := fun r hr => h' r (h r hr)
theorem Le.bind {x y : Option α} {f g : α → Option β} (h : Le x y) (hf : ∀ a, Le (f a) (g a)) : Le (x.bind f) (y.bind g) := fun r hr => by
  obtain ⟨a, h1, h2⟩ := Option.bind_eq_some_iff.1 hr
  exact Option.bind_eq_some_iff.2 ⟨a, h a h1, hf a r h2⟩
theorem Le.cond {b : Bool} {x y x' y' : Option α} (h : Le x x') (h' : Le y y') : Le (cond b x y) (cond b x' y') := by cases b <;> assumption
theorem Le.onSum {d : α ⊕ β} {f f' : α → Option γ} {g g' : β → Option γ} (h : ∀ a, Le (f a) (f' a)) (h' : ∀ a, Le (g a) (g' a)) : Le (onSum d f g) (onSum d f' g') := by
  cases d
  · exact h _
  · exact h' _
theorem iter_le {B B' : σ → Option (σ ⊕ κ)} (h : ∀ z, Le (B z) (B' z)) : ∀ (n m : Nat), n ≤ m → ∀ z, Le (iter B n z) (iter B' m z)
  | 0, _, _, _ => fun r hr => by cases hr
  | n + 1, 0, hm, _ => by omega
  | n + 1, m + 1, hm, z => by
    unfold iter
    refine Le.bind (h z) fun a => ?_
    cases a with
    | inl z' => exact iter_le h n m (by omega) z'
    | inr k => exact Le.refl
theorem loopC_some {B : σ → Option (σ ⊕ κ)} {z : σ} {k : κ} (h : loopC B z = some k) : ∃ n, iter B n z = some k := by
  unfold loopC at h
  split at h
  · rename_i he
    simp only [Option.some.injEq] at h
    rw [← h]
    exact Classical.choose_spec he
  · cases h
theorem loopC_of {B : σ → Option (σ ⊕ κ)} {z : σ} {k : κ} {n : Nat} (h : iter B n z = some k) : loopC B z = some k := by
  unfold loopC
  have he : ∃ k n, iter B n z = some k := ⟨k, n, h⟩
  rw [dif_pos he]
  obtain ⟨m, hm⟩ := Classical.choose_spec he
  have h1 := iter_le (fun z => Le.refl (x := B z)) m (max m n) (Nat.le_max_left _ _) z _ hm
  have h2 := iter_le (fun z => Le.refl (x := B z)) n (max m n) (Nat.le_max_right _ _) z _ h
  rw [h1] at h2
  exact h2
theorem Le.loop {n : Nat} {B B' : σ → Option (σ ⊕ κ)} {z : σ} (h : ∀ z, Le (B z) (B' z)) : Le (loopF n B z) (loopC B' z) := fun _ hr => loopC_of (iter_le h n n (Nat.le_refl _) z _ hr)
theorem Le.loopC {B B' : σ → Option (σ ⊕ κ)} {z : σ} (h : ∀ z, Le (B z) (B' z)) : Le (loopC B z) (loopC B' z) := fun _ hr => by
  obtain ⟨n, hn⟩ := loopC_some hr
  exact loopC_of (iter_le h n n (Nat.le_refl _) z _ hn)
/-- a loop, one round -/
theorem loopC_step {B : σ → Option (σ ⊕ κ)} {z : σ} : loopC B z = (B z).bind fun | .inl z' => loopC B z' | .inr k => some k := by
  have h1 : ∀ r, loopC B z = some r → ((B z).bind fun | .inl z' => loopC B z' | .inr k => some k) = some r := fun r hr => by
    obtain ⟨n, hn⟩ := loopC_some hr
    cases n with
    | zero => cases hn
    | succ n =>
      unfold iter at hn
      obtain ⟨a, h1, h2⟩ := Option.bind_eq_some_iff.1 hn
      refine Option.bind_eq_some_iff.2 ⟨a, h1, ?_⟩
      cases a with
      | inl z' => exact loopC_of h2
      | inr k => exact h2
  have h2 : ∀ r, ((B z).bind fun | .inl z' => loopC B z' | .inr k => some k) = some r → loopC B z = some r := fun r hr => by
    obtain ⟨a, h1, h2⟩ := Option.bind_eq_some_iff.1 hr
    cases a with
    | inl z' =>
      obtain ⟨n, hn⟩ := loopC_some h2
      exact loopC_of (n := n + 1) (by unfold iter; rw [h1]; exact hn)
    | inr k => exact loopC_of (n := 1) (by unfold iter; rw [h1]; exact h2)
  cases h : loopC B z with
  | some r => exact (h1 r h).symm
  | none =>
    cases h' : (B z).bind fun | .inl z' => loopC B z' | .inr k => some k with
    | none => rfl
    | some r => rw [h2 r h'] at h; cases h
/-- rounds of a function that calls itself -/
theorem sup_le {g : Nat → Option α} (hm : ∀ n, Le (g n) (g (n + 1))) (n : Nat) : Le (g n) (supC g) := fun r hr => by
  have up : ∀ k m, Le (g m) (g (m + k)) := fun k => by
    induction k with
    | zero => exact fun m => Le.refl
    | succ k ih => exact fun m => (ih m).trans (hm _)
  refine supC_of hr fun m s hs => ?_
  have h1 := up m n r hr
  have h2 := up n m s hs
  rw [Nat.add_comm] at h2
  rw [h1] at h2
  injection h2 with h2
  exact h2.symm
end
end Go.Lf
