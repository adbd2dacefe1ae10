/-
  From a contract of the library to an entry.
-/
import Derived.Test.YtkfcinmgebhbhaaDoorQFuel
namespace Go.Lf
open Go Go.Eng Go.RowKit

theorem argsR_gs {φ : Phi} {ps : List Par} {z : prodT (ps.map Par.ty)} {vals : List Value} {gs : List (Nat × Nat)} {hs : List Chunk} (h : ArgsR φ ps z vals gs hs) (ho : outs ps = []) : gs = [] := by
  induction h with
  | nil => rfl
  | val _ _ _ ih => exact ih ho
  | cfn _ ih => exact ih ho
  | obj _ _ _ => simp [outs] at ho
theorem hb_below {C : Cx} {w w' : World} {I : World → Prop} (hb : Hb C w [] I) (h : Below w.heap.size w w') : Hb C w' [] I :=
  hb.grow ⟨h.os, h.tape, h.output, h.size, fun k hk _ _ => h.block k hk, fun k m hk _ _ => Same.of_block (h.block k hk), fun c hc => (by cases hc)⟩
section
variable {P : Program} {G : World → Prop} {f : Nat} {ps : List Par} {rs : List Ty} {F : prodT (ps.map Par.ty) → Option (prodT (rs ++ outs ps))}
theorem drop_obs (ho : outs ps = []) (r : prodT (rs ++ outs ps)) : (unProd (rs ++ outs ps) r).drop rs.length = [] := by
  refine List.drop_eq_nil_of_le ?_
  have := congrArg List.length (unProd_tys (rs ++ outs ps) r)
  simp [ho] at this
  omega
/-- results that lean on no memory -/
theorem ent_calls (go : GoFn P f) (top : ∀ t, Par.val t ∈ ps → t.top = true) (ho : outs ps = [])
    (h : ∀ z r w φ vals gs hs, F z = some r → G w → ArgsR φ ps z vals gs hs → Calls P f vals.toArray w fun e w' => (∃ vs, e = .returned (resVal vs) ∧ TupR φ ((unProd (rs ++ outs ps) r).take rs.length) vs []) ∧ Below w.heap.size w w') : EntryOk P G f ⟨ps, rs, F⟩ := by
  refine ⟨go, top, fun z r hz C φ vals gs hs ha hb => ?_⟩
  have hb0 : Hb C C.w0 [] (Inv G φ) := (Sub.nil hs).hb hb
  refine (h z r C.w0 φ vals gs hs hz hb.get.1 ha).mono ?_
  rintro e w' ⟨⟨vs, rfl, ht⟩, hbl⟩
  have hg := argsR_gs ha ho
  subst hg
  refine ⟨_, φ, [], [], rfl, φ.le_refl, hb_below hb0 hbl, ⟨vs, ht, rfl⟩, ?_⟩
  rw [drop_obs ho]
  exact .nil
/-- one result: a new slice -/
theorem ent_row {t : Ty} {el : Nat} {F : prodT (ps.map Par.ty) → Option (prodT ([.sl t] ++ outs ps))} (go : GoFn P f) (top : ∀ t, Par.val t ∈ ps → t.top = true) (ho : outs ps = [])
    (h : ∀ z r w φ vals gs hs, F z = some r → G w → ArgsR φ ps z vals gs hs → Calls P f vals.toArray w fun e w' => (∃ (l : List t.den) (A : Addr) (css : List (List Value)), (unProd ([.sl t] ++ outs ps) r).take 1 = [⟨.sl t, l⟩] ∧ e = .returned (.slice (some A) l.length l.length) ∧ All2 (fun x cs => Rp φ t x cs []) l css ∧
      w'.ownsRow w.heap.size el t.size (.slice (some A) l.length l.length) l.length css.flatten) ∧ Below w.heap.size w w') : EntryOk P G f ⟨ps, [.sl t], F⟩ := by
  refine ⟨go, top, fun z r hz C φ vals gs hs ha hb => ?_⟩
  have hb0 : Hb C C.w0 [] (Inv G φ) := (Sub.nil hs).hb hb
  refine (h z r C.w0 φ vals gs hs hz hb.get.1 ha).mono ?_
  rintro e w' ⟨⟨l, A, css, hl, rfl, hall, hrow⟩, hbl⟩
  have hg := argsR_gs ha ho
  subst hg
  have hlt := World.ownsRow.lt hrow
  have hb1 : Hb C w' [.row false (.slice (some A) l.length l.length) el t.size l.length css.flatten] (Inv G φ) := by
    refine hb0.step ⟨hbl.os, hbl.tape, hbl.output, hbl.size, fun k hk _ _ => hbl.block k hk, fun k m hk _ _ => Same.of_block (hbl.block k hk), fun c hc => (by cases hc)⟩ (fun c hc => ?_) (fun c hc g hg => ?_) ?_ fun c hc => (by cases hc)
    · have : c = _ := List.mem_singleton.1 hc
      subst this
      refine ⟨hrow.1, ?_⟩
      rcases hrow.2 with h2 | ⟨g, cap, cur, hv, hg, r⟩
      · exact .inl h2
      · exact .inr ⟨g, cap, cur, hv, Nat.zero_le _, r⟩
    · have : c = _ := List.mem_singleton.1 hc
      subst this
      exact .inr (hlt g hg).1
    · exact List.pairwise_singleton _ _
  obtain ⟨φ', f1, f2, f3⟩ := freeze_row hb1
  refine ⟨_, φ', [], [], rfl, f1, f3, ⟨[.slice (some A) l.length l.length], ?_, rfl⟩, ?_⟩
  · show TupR φ' ((unProd ([.sl t] ++ outs ps) r).take 1) _ _
    rw [hl]
    exact TupR.cons (t := .sl t) (x := l) (cs := [.slice (some A) l.length l.length]) (h := []) (hs := []) rfl ⟨some A, l.length, css, rfl, Nat.le_refl _, hall.imp fun _ _ h => h.mono f1, f2, rfl⟩ .nil
  · have : (unProd ([.sl t] ++ outs ps) r).drop ([Ty.sl t]).length = [] := drop_obs (rs := [.sl t]) ho r
    show ObsR φ' [] ((unProd ([.sl t] ++ outs ps) r).drop ([Ty.sl t]).length) []
    rw [this]
    exact .nil
end
end Go.Lf
