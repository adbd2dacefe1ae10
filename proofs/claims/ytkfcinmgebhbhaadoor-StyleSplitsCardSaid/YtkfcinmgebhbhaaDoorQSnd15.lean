/-
  Every operation.
-/
import Derived.Test.YtkfcinmgebhbhaaDoorQSnd14
namespace Go.Lf
open Go Go.Eng

section
variable {P : Program} {N : Nat} {C : Cx} {G : World → Prop} {c : Ctx} {S : St} {Rt : Type} {k : St → Option Rt} {r : Rt}

theorem effE_ok (hc : CtxOk P G c) (hn : c.n = N) {o : Oper} (h : effE c o S k = some r) : ∃ S', k S' = some r ∧ ∀ a w, At N C G S a w → OpWp P N C G o S' a w := by
  obtain ⟨dst, op, ty, pos, af, gd⟩ := o
  cases op with
  | move x => exact moveT_ok hn (.inl rfl) h
  | assign x => exact moveT_ok hn (.inr rfl) h
  | extract x i => exact extractT_ok hn h
  | load t x => exact loadT_ok hc hn h
  | store t x z =>
    simp only [effE] at h
    cases dst with
    | none => exact storeT_ok hc h
    | some _ => cases h
  | alloc t => exact allocT_ok hc hn h
  | box t x =>
    simp only [effE] at h
    cases dst with
    | none => cases h
    | some d => exact boxT_ok hc hn h
  | buildSlice t n parts => exact buildSlice_ok hc hn h
  | makeSlice t x y => exact makeSlice_ok hc hn h
  | slice tx x lo hi mx =>
    simp only [effE] at h
    cases mx with
    | none => exact sliceT_ok hc hn h
    | some _ => cases h
  | makeInterface t x => exact makeIT_ok hc hn h
  | call cl =>
    simp only [effE] at h
    obtain ⟨callee, args, tys⟩ := cl
    cases callee with
    | value f =>
      simp only at h
      split at h
      case h_2 => cases h
      case h_1 fi hx =>
      split at h
      case h_2 => cases h
      case h_1 en hf =>
      split at h
      case h_2 => cases h
      case h_1 z js S1 hz =>
      obtain ⟨q, hq, h⟩ := Option.bind_eq_some_iff.1 h
      split at h
      case h_2 => cases h
      case h_1 S2 hb => exact callT_ok hc hn rfl rfl hx hf hz hq hb h
    | builtin b =>
      cases b with
      | append =>
        simp only at h
        split at h
        case h_2 => cases h
        case h_1 x y t t2 h1 h2 => exact appendT_ok hc hn h1 h2 h
      | _ => cases h
    | _ => cases h
  | _ => cases h

theorem opE_ok (hc : CtxOk P G c) (hn : c.n = N) {o : Oper} (h : opE c o S k = some r) : ∃ S', k S' = some r ∧ ∀ a w, At N C G S a w → OpWp P N C G o S' a w := by
  unfold opE at h
  cases hv : valOk c o with
  | false => rw [hv] at h; exact effE_ok hc hn h
  | true =>
    rw [hv] at h
    obtain ⟨d, h1, h2⟩ := valE_ok (N := N) (C := C) hc h
    exact val_step hn h1 h2
end
end Go.Lf
