/- The law MarkComments: for every input. -/
import Derived.Test.YtgajdfnceadkfaaDoorCards
import Derived.Test.YtgajdfnceadkfaaDoorTie
import Derived.Test.YtgajdfnceadkfaaDoorQAE
import Derived.Deep.DeepWitnessRowRef
import Derived.Stop.LaidErr
import Derived.Lib.LaidTab
import Derived.Lib.LaidU8T
import Derived.ChangeMaps5
namespace Go.Proofs.YtgajdfnceadkfaaDoor.markComments
open Go Go.Lf Go.ChangeShapes Go.WideShapes Go.ChangeAt Go.RowKit
theorem own : ownKnob Tryd.prog.godebug = none := by kernel_rfl
theorem lo : laidOutB Tryd.prog = true := by kernel_rfl
theorem rd : allRead Tryd.prog Tryd.f6.params.toList = true := by kernel_rfl
def ren : Go.Shelf.Ren := ⟨fun n => n, fun n => if n = 5 then 5 else if n = 119 then 120 else if n = 138 then 122 else if n = 139 then 123 else n, fun n => if n = 3 then 1 else if n = 4 then 2 else n⟩
theorem e_first : (Rows.laid_unicode_utf8_first : DataW Unit) = Lib.firstData := by kernel_rfl
theorem e_accept : (Rows.laid_unicode_utf8_acceptRanges : DataW Unit) = Lib.acceptData := by kernel_rfl
theorem tabs {W : World} (h : laidMetH Tryd.prog Rows.markCommentsRow.laid W) : Lib.Utf8Tabs 1 2 W := by
  have h1 : laidMet Tryd.prog Rows.markCommentsRow.laid W := h
  refine Go.Proofs.utf8Tabs_of_readsT (P := Tryd.prog) (ρ := ren) ⟨by kernel_rfl, by kernel_rfl, by kernel_rfl, by kernel_rfl⟩ ⟨by kernel_rfl, by kernel_rfl, by kernel_rfl, by kernel_rfl, by kernel_rfl, by kernel_rfl, by kernel_rfl⟩ ?_ ?_
  · rw [← e_first]; exact Lib.laidMet.reads h1 (.tail _ (.head _))
  · rw [← e_accept]; exact Lib.laidMet.reads h1 (.head _)
set_option maxRecDepth 100000 in
theorem contract (H : Type) (enc : TypeId × Value → H) (W : World) (base : Nat) (args : Array Value) (ds gs : List (DataW H)) (before : List MemPlace)
    (hval : ∀ (j : Nat) t v, Tryd.f6.params[j]? = some t → args[j]? = some v → Value.okWide Tryd.prog W .any base t v)
    (hW : DataW.Whole enc Tryd.prog Tryd.f6.params.toList Rows.markCommentsSpec.vars false W args.toList ds gs before) (hz : (DataW.weightsEach Tryd.prog (Tryd.f6.params.toList ++ []) (ds ++ gs)).all (· ≤ reachBytes) = true) (hL : laidMetH Tryd.prog Rows.markCommentsRow.laid W) (hS : W.ShapedOpen Tryd.prog) :
    Calls Tryd.prog 6 args W fun e W' => ∃ v, e = .returned v ∧ Rows.markCommentsSpec.post enc Tryd.prog Tryd.f6 false true false false W args v W' := by
  have hW' := hW
  obtain ⟨p, q, hA0, hV, rfl, _, _⟩ := hW
  have hA : DataW.TrodAll enc Tryd.prog W 0 (fun _ => true) true Tryd.f6.params.toList args.toList ds p := hA0
  rw [Tryd.params6] at hA hval hz
  obtain ⟨v0, vs0, d0, ds0, p0, q0, hargs, rfl, rfl, h0, r0⟩ := trodAll_cons hA
  obtain ⟨v1, vs1, d1, ds1, p1, q1, rfl, rfl, rfl, h1, r1⟩ := trodAll_cons r0
  obtain ⟨v2, vs2, d2, ds2, p2, q2, rfl, rfl, rfl, h2, r2⟩ := trodAll_cons r1
  obtain ⟨rfl, rfl, rfl⟩ := trodAll_nil r2
  obtain rfl : args = #[v0, v1, v2] := by cases args; simp_all
  obtain ⟨rfl, rfl⟩ := trodVars_none hV
  obtain ⟨x0, c0, t0, rfl, rp0, wf0⟩ := open_arg (a := .str) (by kernel_rfl) (hval 0 9 v0 rfl rfl) h0 (light_arg hz (j := 0) rfl rfl)
  obtain ⟨x1, c1, t1, rfl, rp1, wf1⟩ := open_arg (a := .str) (by kernel_rfl) (hval 1 9 v1 rfl rfl) h1 (light_arg hz (j := 1) rfl rfl)
  obtain ⟨x2, c2, t2, rfl, rp2, wf2⟩ := open_arg (a := (.int .i64)) (by kernel_rfl) (hval 2 3 v2 rfl rfl) h2 (light_arg hz (j := 2) rfl rfl)
  have ha : ArgsR (phiOf W) [.val .str, .val .str, .val (.int .i64)] (x0, x1, x2) [sv .str c0, sv .str c1, sv (.int .i64) c2] [] [] := ArgsR.val (t := .str) (r := [.val .str, .val (.int .i64)]) (z := (x0, x1, x2)) (h := []) (hs := []) t0 rp0 (ArgsR.val (t := .str) (r := [.val (.int .i64)]) (z := (x1, x2)) (h := []) (hs := []) t1 rp1 (ArgsR.val (t := (.int .i64)) (r := []) (z := x2) (h := []) (hs := []) t2 rp2 (.nil)))
  have hG : Lasts W Go.Fn.GG := fun w' hb => ⟨Go.Fn.tabs_below (tabs hL) hb, hS.keptBut (may := fun _ => False) (hb.frame _) (fun _ h => h.elim)⟩
  have hp : Go.Fn.foliolaw04_MarkComments x0 x1 x2 = some true := Go.Fn.comments_law x0 x1 x2 wf1
  exact (law_calls (e := Go.Fn.foliolaw04_MarkCommentsEnt.2) (z := (x0, x1, x2)) (r := true) Go.Fn.foliolaw04_MarkComments_ok rfl rfl hp rfl ha hG).mono fun e W' he => ⟨_, he.1, law_post lo rd rfl rfl Tryd.underlying4 hW' rfl he.2⟩
noncomputable def laidWorld (os : Os) : World :=
  let N := (World.settled Tryd.prog os).heap.size
  let w0 := World.holding Tryd.prog os ⟨#[], #[], []⟩
  { w0 with heap := ((w0.heap.modify 2 fun | .cells _ t frozen => .cells #[.int .u8 128, .int .u8 191, .int .u8 160, .int .u8 191, .int .u8 128, .int .u8 159, .int .u8 144, .int .u8 191, .int .u8 128, .int .u8 143, .int .u8 0, .int .u8 0, .int .u8 0, .int .u8 0, .int .u8 0, .int .u8 0, .int .u8 0, .int .u8 0, .int .u8 0, .int .u8 0, .int .u8 0, .int .u8 0, .int .u8 0, .int .u8 0, .int .u8 0, .int .u8 0, .int .u8 0, .int .u8 0, .int .u8 0, .int .u8 0, .int .u8 0, .int .u8 0] t frozen | o => o).modify 1 fun | .cells _ t frozen => .cells (match Go.Pinned.utf8First with | .agg l => (l.map fun d => match d with | .lit (.int kk z) => Value.int kk z | _ => .bool false).toArray | _ => #[]) t frozen | o => o) }
theorem laid_met (os : Os) : laidMet Tryd.prog Rows.markCommentsRow.laid ((laidWorld os).forCall (fun _ _ => 0) ⟨#[], #[.string ⟨#[]⟩, .string ⟨#[]⟩, .int .i64 0], []⟩).memory :=
  laidMet_of_run' 8 (by kernel_rfl) (by kernel_rfl)
theorem reads (os : Os) {H : Type} (enc : TypeId × Value → H) : ∃ places, DataW.whole enc Tryd.prog ((laidWorld os).forCall (fun _ _ => 0) ⟨#[], #[.string ⟨#[]⟩, .string ⟨#[]⟩, .int .i64 0], []⟩).memory Tryd.f6.params.toList Rows.markCommentsSpec.vars false #[Value.string ⟨#[]⟩, .string ⟨#[]⟩, .int .i64 0].toList 8 = some ([.lit (.string []), .lit (.string []), .lit (.int .i64 0)], [], places) :=
  ⟨[], by kernel_rfl⟩
set_option maxRecDepth 100000 in
theorem lifted (os : Os) (started : os.Started) (H : Type) (enc : TypeId × Value → H) (F : Stop.Interp) :
    ReturnsInHanded {} Tryd.checked os 6 .any ((OpenSpec.ofChange Rows.markCommentsSpec).preRow enc Tryd.prog Tryd.f6 Rows.markCommentsRow.domain false Rows.markCommentsRow.laid) (((OpenSpec.ofChange Rows.markCommentsSpec).at F).post enc Tryd.prog Tryd.f6 false true false false) := by
  obtain ⟨places, hx⟩ := reads os enc
  refine returnsInHanded_of_row (C := Tryd.checked) (s := (OpenSpec.ofChange Rows.markCommentsSpec)) own started (by kernel_rfl) Tryd.func6
    (witness_row_at (enc := enc) (C := Tryd.checked) false (laidWorld os) #[.string ⟨#[]⟩, .string ⟨#[]⟩, .int .i64 0] rfl (by kernel_rfl) (by kernel_rfl) (by kernel_rfl)
      (OpenSpec.preRow_of_cond 8 hx (by kernel_rfl) (fun k hk => by cases hk) (by kernel_rfl) (laid_met os))) ?_
  intro W base args ds gs before hval hW _ hcond hz hL hS _
  exact contract H enc W base args ds gs before hval hW hz hL hS
theorem said : Rows.MarkCommentsSaid :=
  OpenClaim.holds_of_cond 6 Tryd.f6 rfl rfl rfl rfl rfl rfl rfl ⟨rfl, rfl, rfl, rfl, rfl⟩ rfl rfl rfl rfl rfl (by kernel_rfl) Tryd.func6 (by kernel_rfl)
    (of_decide_eq_true (by kernel_rfl)) (by unfold Func.isWrapper; first | (rw [if_pos (by decide +kernel)]; kernel_rfl) | (rw [if_neg (by decide +kernel)]; exact ⟨rfl, rfl⟩))
    (fun os started H enc _ F => by rw [OpenClaim.pre_eq_preRow]; exact lifted os started H enc F)
theorem plain (f : FuncId) (fn : Func) (hf : Tryd.pinned.checked.prog.funcNamed "folio/foliolaw04.MarkComments" = some f) (hfn : Tryd.pinned.checked.prog.funcs[f]? = some fn) :
    true = Tryd.pinned.checked.prog.looks [] ∧ ∀ (j : Nat) t, fn.params[j]? = some t → Tryd.pinned.checked.prog.wantsStandIn t = false := by
  obtain rfl : f = 6 := Option.some.inj ((show Tryd.prog.funcNamed "folio/foliolaw04.MarkComments" = some 6 by kernel_rfl).symm.trans hf) |>.symm
  obtain rfl : fn = Tryd.f6 := (Option.some.inj (Tryd.func6.symm.trans hfn)).symm
  refine ⟨by kernel_rfl, fun j t ht => ?_⟩
  rw [Tryd.params6] at ht
  have h : t ∈ [9, 9, 3] := by have := Array.mem_of_getElem? ht; simpa using this
  have hall : ([9, 9, 3] : List TypeId).all (fun t => Tryd.prog.wantsStandIn t == false) = true := by kernel_rfl
  exact eq_of_beq (List.all_eq_true.1 hall t h)
theorem holds : Rows.MarkCommentsCardSaid :=
  Claim7.holds_tied_plain_at .later [] _ _ _ _ said (fun _ h => by cases h) (by kernel_rfl) (fun _ h => by cases h) markComments_row_tie rfl ⟨rfl, rfl⟩ (by kernel_rfl) rfl plain (by kernel_rfl)
end Go.Proofs.YtgajdfnceadkfaaDoor.markComments
