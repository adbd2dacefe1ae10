/- The law FaultFirst: for every input. -/
import Derived.Test.YtlidfdmdmiidfaaDoorCards
import Derived.Test.YtlidfdmdmiidfaaDoorTie
import Derived.Test.YtlidfdmdmiidfaaDoorQAF
import Derived.LaidHandle
import Derived.FnData
import Derived.Test.YtlidfdmdmiidfaaDoorQAE
import Derived.Deep.DeepWitnessRowRef
import Derived.Stop.LaidErr
import Derived.Lib.LaidTab
import Derived.Lib.LaidU8T
import Derived.ChangeMaps5
namespace Go.Proofs.YtlidfdmdmiidfaaDoor.faultFirst
open Go Go.Lf Go.ChangeShapes Go.WideShapes Go.ChangeAt Go.RowKit
theorem own : ownKnob Tryd.prog.godebug = none := by kernel_rfl
theorem lo : laidOutB Tryd.prog = true := by kernel_rfl
theorem rd : allRead Tryd.prog Tryd.f4.params.toList = true := by kernel_rfl
theorem h_rt : (Tryd.prog.cutTypes.find? (·.1 == "internal/reflectlite.rtype")).map (·.2) = some 114 := by kernel_rfl
theorem h_one : ((List.range Tryd.prog.types.size).filter fun t => Tryd.prog.rowNamed t [101, 114, 114, 111, 114]) = [28] := by kernel_rfl
theorem handle {W : World} (h : laidMetH Tryd.prog Rows.faultFirstRow.laid W) : W.cell? ⟨0, 0, none⟩ = some (.iface 114 (.agg #[.pointer (some ⟨5, 28, none⟩)])) := by
 have h' : laidMet Tryd.prog [] W ∧ handlesMet Tryd.prog [("errors.errorType", Rows.laid_errors_errorType)] W := h
 obtain ⟨name, u, ty, e1, e2, e3, e4, e5⟩ := h'.2 _ (List.mem_singleton.2 rfl)
 have en : name = [101, 114, 114, 111, 114] := (Option.some.inj e1).symm
 subst en
 obtain rfl := Option.some.inj (h_rt.symm.trans e2)
 have hm : ty ∈ (List.range Tryd.prog.types.size).filter fun t => Tryd.prog.rowNamed t [101, 114, 114, 111, 114] := List.mem_filter.2 ⟨List.mem_range.2 e3, e4⟩
 rw [h_one] at hm
 obtain rfl := List.mem_singleton.1 hm
 have hh : typeHandle Tryd.prog 28 = .pointer (some ⟨5, 28, none⟩) := by kernel_rfl
 rw [hh] at e5
 simpa using World.var?_cell (show Tryd.prog.globalNamed "errors.errorType" = some 0 by kernel_rfl) e5 0
theorem h_cell {w w' : World} {a : Addr} {v : Value} (hb : Below w.heap.size w w') (h : w.cell? a = some v) : w'.cell? a = some v := by
 rw [hb.cell (World.block_lt_of_cell? w a h)]
 exact h
set_option maxRecDepth 100000 in
theorem contract (H : Type) (enc : TypeId × Value → H) (W : World) (base : Nat) (args : Array Value) (ds gs : List (DataW H)) (before : List MemPlace)
  (hval : ∀ (j : Nat) t v, Tryd.f4.params[j]? = some t → args[j]? = some v → Value.okWide Tryd.prog W .any base t v)
  (hW : DataW.Whole enc Tryd.prog Tryd.f4.params.toList Rows.faultFirstSpec.vars false W args.toList ds gs before) (hz : (DataW.weightsEach Tryd.prog (Tryd.f4.params.toList ++ []) (ds ++ gs)).all (· ≤ reachBytes) = true) (hL : laidMetH Tryd.prog Rows.faultFirstRow.laid W) (_ : W.ShapedOpen Tryd.prog) :
  Calls Tryd.prog 4 args W fun e W' => ∃ v, e = .returned v ∧ Rows.faultFirstSpec.post enc Tryd.prog Tryd.f4 false true false false W args v W' := by
 have hW' := hW
 obtain ⟨p, q, hA0, hV, rfl, _, _⟩ := hW
 have hA : DataW.TrodAll enc Tryd.prog W 0 (fun _ => true) true Tryd.f4.params.toList args.toList ds p := hA0
 rw [Tryd.params4] at hA hval hz
 obtain ⟨v0, vs0, d0, ds0, p0, q0, hargs, rfl, rfl, h0, r0⟩ := trodAll_cons hA
 obtain ⟨rfl, rfl, rfl⟩ := trodAll_nil r0
 obtain rfl : args = #[v0] := by cases args; simp_all
 obtain ⟨rfl, rfl⟩ := trodVars_none hV
 obtain ⟨x0, c0, t0, rfl, rp0, wf0⟩ := open_arg (a := (.sl (.st (.pr (.int .i64) (.pr (.st (.pr (.int .i64) (.pr (.int .i64) (.pr (.int .i64) (.pr (.int .i64) (.pr .str (.pr (.sl (.st (.pr .str (.pr (.int .i64) .unit)))) .unit))))))) (.pr .str (.pr (.int .i64) (.pr (.sl (.int .i64)) .unit)))))))) (by kernel_rfl) (hval 0 22 v0 rfl rfl) h0 (light_arg hz (j := 0) rfl rfl)
 have ha : ArgsR (phiOf W) [.val (.sl (.st (.pr (.int .i64) (.pr (.st (.pr (.int .i64) (.pr (.int .i64) (.pr (.int .i64) (.pr (.int .i64) (.pr .str (.pr (.sl (.st (.pr .str (.pr (.int .i64) .unit)))) .unit))))))) (.pr .str (.pr (.int .i64) (.pr (.sl (.int .i64)) .unit)))))))] x0 [sv (.sl (.st (.pr (.int .i64) (.pr (.st (.pr (.int .i64) (.pr (.int .i64) (.pr (.int .i64) (.pr (.int .i64) (.pr .str (.pr (.sl (.st (.pr .str (.pr (.int .i64) .unit)))) .unit))))))) (.pr .str (.pr (.int .i64) (.pr (.sl (.int .i64)) .unit))))))) c0] [] [] := ArgsR.val (t := (.sl (.st (.pr (.int .i64) (.pr (.st (.pr (.int .i64) (.pr (.int .i64) (.pr (.int .i64) (.pr (.int .i64) (.pr .str (.pr (.sl (.st (.pr .str (.pr (.int .i64) .unit)))) .unit))))))) (.pr .str (.pr (.int .i64) (.pr (.sl (.int .i64)) .unit)))))))) (r := []) (z := x0) (h := []) (hs := []) t0 rp0 (.nil)
 have hG : Lasts W Go.Fn.GG := fun _ hb => ⟨trivial, h_cell hb (handle hL)⟩
 have hp : Go.Fn.foliolaw01_FaultFirst x0 = some true := Go.Fn.first_wf x0 wf0
 have hq : (Go.Fn.foliolaw01_FaultFirstEnt.2).f x0 = some true := by delta Go.Fn.foliolaw01_FaultFirstEnt; dsimp only; exact hp
 exact (law_calls (e := Go.Fn.foliolaw01_FaultFirstEnt.2) (z := x0) (r := true) Go.Fn.foliolaw01_FaultFirst_ok rfl rfl hq rfl ha hG).mono fun e W' he => ⟨_, he.1, law_post lo rd rfl rfl Tryd.underlying4 hW' rfl he.2⟩
noncomputable def laidWorld (os : Os) : World :=
 let _ := (World.settled Tryd.prog os).heap.size
 let w0 := World.holding Tryd.prog os ⟨#[], #[], []⟩
 { w0 with heap := (w0.heap.modify 0 fun | .cells _ t frozen => .cells #[.iface 114 (.agg #[.pointer (some ⟨5, 28, none⟩)])] t frozen | o => o) }
theorem laid_met (os : Os) : laidMetH Tryd.prog Rows.faultFirstRow.laid ((laidWorld os).forCall (fun _ _ => 0) ⟨#[], #[.slice none 0 0], []⟩).memory :=
 laidMetH_of_parts (show laidMet Tryd.prog [] ((laidWorld os).forCall (fun _ _ => 0) ⟨#[], #[.slice none 0 0], []⟩).memory from laidMet_of_run' 8 (by kernel_rfl) (by kernel_rfl)) (by kernel_rfl)
theorem reads (os : Os) {H : Type} (enc : TypeId × Value → H) : ∃ places, DataW.whole enc Tryd.prog ((laidWorld os).forCall (fun _ _ => 0) ⟨#[], #[.slice none 0 0], []⟩).memory Tryd.f4.params.toList Rows.faultFirstSpec.vars false #[Value.slice none 0 0].toList 8 = some ([.nil], [], places) :=
 ⟨[], by kernel_rfl⟩
set_option maxRecDepth 100000 in
theorem lifted (os : Os) (started : os.Started) (H : Type) (enc : TypeId × Value → H) (F : Stop.Interp) :
  ReturnsInHanded {} Tryd.checked os 4 .any ((OpenSpec.ofChange Rows.faultFirstSpec).preRow enc Tryd.prog Tryd.f4 Rows.faultFirstRow.domain false Rows.faultFirstRow.laid) (((OpenSpec.ofChange Rows.faultFirstSpec).at F).post enc Tryd.prog Tryd.f4 false true false false) := by
 obtain ⟨places, hx⟩ := reads os enc
 refine returnsInHanded_of_row (C := Tryd.checked) (s := (OpenSpec.ofChange Rows.faultFirstSpec)) own started (by kernel_rfl) Tryd.func4
  (witness_row_at (enc := enc) (C := Tryd.checked) false (laidWorld os) #[.slice none 0 0] rfl (by kernel_rfl) (by kernel_rfl) (by kernel_rfl)
   (OpenSpec.preRow_of_cond 8 hx (by kernel_rfl) (fun k hk => by cases hk) (by kernel_rfl) (laid_met os))) ?_
 intro W base args ds gs before hval hW _ hcond hz hL hS _
 exact contract H enc W base args ds gs before hval hW hz hL hS
theorem said : Rows.FaultFirstSaid :=
 OpenClaim.holds_of_cond 4 Tryd.f4 rfl rfl rfl rfl rfl rfl rfl ⟨rfl, rfl, rfl, rfl, rfl⟩ rfl rfl rfl rfl rfl (by kernel_rfl) Tryd.func4 (by kernel_rfl)
  (of_decide_eq_true (by kernel_rfl)) (by unfold Func.isWrapper; first | (rw [if_pos (by decide +kernel)]; kernel_rfl) | (rw [if_neg (by decide +kernel)]; exact ⟨rfl, rfl⟩))
  (fun os started H enc _ F => by rw [OpenClaim.pre_eq_preRow]; exact lifted os started H enc F)
theorem plain (f : FuncId) (fn : Func) (hf : Tryd.pinned.checked.prog.funcNamed "folio/foliolaw01.FaultFirst" = some f) (hfn : Tryd.pinned.checked.prog.funcs[f]? = some fn) :
  true = Tryd.pinned.checked.prog.looks [] ∧ ∀ (j : Nat) t, fn.params[j]? = some t → Tryd.pinned.checked.prog.wantsStandIn t = false := by
 obtain rfl : f = 4 := Option.some.inj ((show Tryd.prog.funcNamed "folio/foliolaw01.FaultFirst" = some 4 by kernel_rfl).symm.trans hf) |>.symm
 obtain rfl : fn = Tryd.f4 := (Option.some.inj (Tryd.func4.symm.trans hfn)).symm
 refine ⟨by kernel_rfl, fun j t ht => ?_⟩
 rw [Tryd.params4] at ht
 have h : t ∈ [22] := by have := Array.mem_of_getElem? ht; simpa using this
 have hall : ([22] : List TypeId).all (fun t => Tryd.prog.wantsStandIn t == false) = true := by kernel_rfl
 exact eq_of_beq (List.all_eq_true.1 hall t h)
theorem holds : Rows.FaultFirstCardSaid :=
 Claim7.holds_tied_plain_at .later [] _ _ _ _ said (fun _ h => by cases h) (by kernel_rfl) (fun _ h => by cases h) faultFirst_row_tie rfl ⟨rfl, rfl⟩ (by kernel_rfl) rfl plain (by kernel_rfl)
end Go.Proofs.YtlidfdmdmiidfaaDoor.faultFirst
