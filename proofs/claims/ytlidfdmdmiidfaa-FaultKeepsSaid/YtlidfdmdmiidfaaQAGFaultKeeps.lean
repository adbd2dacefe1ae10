/- The law FaultKeeps: for every input. -/
import Derived.Test.YtlidfdmdmiidfaaRows
import Derived.Test.YtlidfdmdmiidfaaQAF
import Derived.Test.YtlidfdmdmiidfaaQAE
import Derived.Deep.DeepWitnessRowRef
import Derived.Stop.LaidErr
import Derived.Lib.LaidTab
import Derived.Lib.LaidU8T
import Derived.ChangeMaps5
namespace Go.Proofs.Ytlidfdmdmiidfaa.faultKeeps
open Go Go.Lf Go.ChangeShapes Go.WideShapes Go.ChangeAt Go.RowKit
theorem own : ownKnob Try.prog.godebug = none := by kernel_rfl
theorem lo : laidOutB Try.prog = true := by kernel_rfl
theorem rd : allRead Try.prog Try.f3.params.toList = true := by kernel_rfl
set_option maxRecDepth 100000 in
theorem contract (H : Type) (enc : TypeId × Value → H) (W : World) (base : Nat) (args : Array Value) (ds gs : List (DataW H)) (before : List MemPlace)
    (hval : ∀ (j : Nat) t v, Try.f3.params[j]? = some t → args[j]? = some v → Value.okWide Try.prog W .any base t v)
    (hW : DataW.Whole enc Try.prog Try.f3.params.toList Rows.faultKeepsSpec.vars false W args.toList ds gs before) (hz : (DataW.weightsEach Try.prog (Try.f3.params.toList ++ []) (ds ++ gs)).all (· ≤ reachBytes) = true) (hL : laidMetH Try.prog Rows.faultKeepsRow.laid W) (hS : W.ShapedOpen Try.prog) :
    Calls Try.prog 3 args W fun e W' => ∃ v, e = .returned v ∧ Rows.faultKeepsSpec.post enc Try.prog Try.f3 false true false false W args v W' := by
  have hW' := hW
  obtain ⟨p, q, hA0, hV, rfl, _, _⟩ := hW
  have hA : DataW.TrodAll enc Try.prog W 0 (fun _ => true) true Try.f3.params.toList args.toList ds p := hA0
  rw [Try.params3] at hA hval hz
  obtain ⟨v0, vs0, d0, ds0, p0, q0, hargs, rfl, rfl, h0, r0⟩ := trodAll_cons hA
  obtain ⟨v1, vs1, d1, ds1, p1, q1, rfl, rfl, rfl, h1, r1⟩ := trodAll_cons r0
  obtain ⟨v2, vs2, d2, ds2, p2, q2, rfl, rfl, rfl, h2, r2⟩ := trodAll_cons r1
  obtain ⟨v3, vs3, d3, ds3, p3, q3, rfl, rfl, rfl, h3, r3⟩ := trodAll_cons r2
  obtain ⟨rfl, rfl, rfl⟩ := trodAll_nil r3
  obtain rfl : args = #[v0, v1, v2, v3] := by cases args; simp_all
  obtain ⟨rfl, rfl⟩ := trodVars_none hV
  obtain ⟨x0, c0, t0, rfl, rp0, wf0⟩ := open_arg (a := (.sl (.st (.pr (.int .i64) (.pr (.st (.pr (.int .i64) (.pr (.int .i64) (.pr (.int .i64) (.pr (.int .i64) (.pr .str (.pr (.sl (.st (.pr .str (.pr (.int .i64) .unit)))) .unit))))))) (.pr .str (.pr (.int .i64) (.pr (.sl (.int .i64)) .unit)))))))) (by kernel_rfl) (hval 0 22 v0 rfl rfl) h0 (light_arg hz (j := 0) rfl rfl)
  obtain ⟨x1, c1, t1, rfl, rp1, wf1⟩ := open_arg (a := .str) (by kernel_rfl) (hval 1 9 v1 rfl rfl) h1 (light_arg hz (j := 1) rfl rfl)
  obtain ⟨x2, c2, t2, rfl, rp2, wf2⟩ := open_arg (a := (.int .i64)) (by kernel_rfl) (hval 2 3 v2 rfl rfl) h2 (light_arg hz (j := 2) rfl rfl)
  obtain ⟨x3, c3, t3, rfl, rp3, wf3⟩ := open_arg (a := (.int .i64)) (by kernel_rfl) (hval 3 3 v3 rfl rfl) h3 (light_arg hz (j := 3) rfl rfl)
  have ha : ArgsR (phiOf W) [.val (.sl (.st (.pr (.int .i64) (.pr (.st (.pr (.int .i64) (.pr (.int .i64) (.pr (.int .i64) (.pr (.int .i64) (.pr .str (.pr (.sl (.st (.pr .str (.pr (.int .i64) .unit)))) .unit))))))) (.pr .str (.pr (.int .i64) (.pr (.sl (.int .i64)) .unit))))))), .val .str, .val (.int .i64), .val (.int .i64)] (x0, x1, x2, x3) [sv (.sl (.st (.pr (.int .i64) (.pr (.st (.pr (.int .i64) (.pr (.int .i64) (.pr (.int .i64) (.pr (.int .i64) (.pr .str (.pr (.sl (.st (.pr .str (.pr (.int .i64) .unit)))) .unit))))))) (.pr .str (.pr (.int .i64) (.pr (.sl (.int .i64)) .unit))))))) c0, sv .str c1, sv (.int .i64) c2, sv (.int .i64) c3] [] [] := ArgsR.val (t := (.sl (.st (.pr (.int .i64) (.pr (.st (.pr (.int .i64) (.pr (.int .i64) (.pr (.int .i64) (.pr (.int .i64) (.pr .str (.pr (.sl (.st (.pr .str (.pr (.int .i64) .unit)))) .unit))))))) (.pr .str (.pr (.int .i64) (.pr (.sl (.int .i64)) .unit)))))))) (r := [.val .str, .val (.int .i64), .val (.int .i64)]) (z := (x0, x1, x2, x3)) (h := []) (hs := []) t0 rp0 (ArgsR.val (t := .str) (r := [.val (.int .i64), .val (.int .i64)]) (z := (x1, x2, x3)) (h := []) (hs := []) t1 rp1 (ArgsR.val (t := (.int .i64)) (r := [.val (.int .i64)]) (z := (x2, x3)) (h := []) (hs := []) t2 rp2 (ArgsR.val (t := (.int .i64)) (r := []) (z := x3) (h := []) (hs := []) t3 rp3 (.nil))))
  have hG : Lasts W Go.Fn.GG := fun w' hb => ⟨trivial, trivial⟩
  have hp : Go.Fn.foliolaw01_FaultKeeps x0 x1 x2 x3 = some true := Go.Fn.keeps_wf x0 x1 x2 x3 wf0 wf1 wf2 wf3
  have hq : (Go.Fn.foliolaw01_FaultKeepsEnt.2).f (x0, x1, x2, x3) = some true := by delta Go.Fn.foliolaw01_FaultKeepsEnt; dsimp only; exact hp
  exact (law_calls (e := Go.Fn.foliolaw01_FaultKeepsEnt.2) (z := (x0, x1, x2, x3)) (r := true) Go.Fn.foliolaw01_FaultKeeps_ok rfl rfl hq rfl ha hG).mono fun e W' he => ⟨_, he.1, law_post lo rd rfl rfl Try.underlying4 hW' rfl he.2⟩
noncomputable def laidWorld (os : Os) : World :=
  let N := (World.settled Try.prog os).heap.size
  let w0 := World.holding Try.prog os ⟨#[], #[], []⟩
  { w0 with heap := w0.heap }
theorem laid_met (os : Os) : laidMet Try.prog Rows.faultKeepsRow.laid ((laidWorld os).forCall (fun _ _ => 0) ⟨#[], #[.slice none 0 0, .string ⟨#[]⟩, .int .i64 0, .int .i64 0], []⟩).memory :=
  laidMet_of_run' 8 (by kernel_rfl) (by kernel_rfl)
theorem reads (os : Os) {H : Type} (enc : TypeId × Value → H) : ∃ places, DataW.whole enc Try.prog ((laidWorld os).forCall (fun _ _ => 0) ⟨#[], #[.slice none 0 0, .string ⟨#[]⟩, .int .i64 0, .int .i64 0], []⟩).memory Try.f3.params.toList Rows.faultKeepsSpec.vars false #[Value.slice none 0 0, .string ⟨#[]⟩, .int .i64 0, .int .i64 0].toList 8 = some ([.nil, .lit (.string []), .lit (.int .i64 0), .lit (.int .i64 0)], [], places) :=
  ⟨[], by kernel_rfl⟩
set_option maxRecDepth 100000 in
theorem lifted (os : Os) (started : os.Started) (H : Type) (enc : TypeId × Value → H) (F : Stop.Interp) :
    ReturnsInHanded {} Try.checked os 3 .any ((OpenSpec.ofChange Rows.faultKeepsSpec).preRow enc Try.prog Try.f3 Rows.faultKeepsRow.domain false Rows.faultKeepsRow.laid) (((OpenSpec.ofChange Rows.faultKeepsSpec).at F).post enc Try.prog Try.f3 false true false false) := by
  obtain ⟨places, hx⟩ := reads os enc
  refine returnsInHanded_of_row (C := Try.checked) (s := (OpenSpec.ofChange Rows.faultKeepsSpec)) own started (by kernel_rfl) Try.func3
    (witness_row_at (enc := enc) (C := Try.checked) false (laidWorld os) #[.slice none 0 0, .string ⟨#[]⟩, .int .i64 0, .int .i64 0] rfl (by kernel_rfl) (by kernel_rfl) (by kernel_rfl)
      (OpenSpec.preRow_of_cond 8 hx (by kernel_rfl) (fun k hk => by cases hk) (by kernel_rfl) (laid_met os))) ?_
  intro W base args ds gs before hval hW _ hcond hz hL hS _
  exact contract H enc W base args ds gs before hval hW hz hL hS
theorem holds : Rows.FaultKeepsSaid :=
  OpenClaim.holds_of_cond 3 Try.f3 rfl rfl rfl rfl rfl rfl rfl ⟨rfl, rfl, rfl, rfl, rfl⟩ rfl rfl rfl rfl rfl (by kernel_rfl) Try.func3 (by kernel_rfl)
    (of_decide_eq_true (by kernel_rfl)) (by unfold Func.isWrapper; first | (rw [if_pos (by decide +kernel)]; kernel_rfl) | (rw [if_neg (by decide +kernel)]; exact ⟨rfl, rfl⟩))
    (fun os started H enc _ F => by rw [OpenClaim.pre_eq_preRow]; exact lifted os started H enc F)
end Go.Proofs.Ytlidfdmdmiidfaa.faultKeeps
