/- The law CheckOps: for every input. -/
import Derived.Test.YtpaecijilnfkhaaDoorCards
import Derived.Test.YtpaecijilnfkhaaDoorTie
import Derived.Test.YtpaecijilnfkhaaDoorKit
import Derived.Test.YtpaecijilnfkhaaDoorOpn
import Derived.Test.YtpaecijilnfkhaaDoorO17
namespace Go.Proofs.YtpaecijilnfkhaaDoor.checkOps
open Go Go.Eng Go.ChangeShapes Go.WideShapes Go.ChangeAt Go.RowKit
theorem own : ownKnob Tryd.prog.godebug = none := by kernel_rfl
theorem lo : laidOutB Tryd.prog = true := by kernel_rfl
theorem rd : allRead Tryd.prog Tryd.f5.params.toList = true := by kernel_rfl
def ren : Go.Shelf.Ren := ⟨fun n => n, fun n => if n = 5 then 5 else if n = 119 then 202 else if n = 138 then 204 else if n = 139 then 205 else n, fun n => if n = 3 then 4 else if n = 4 then 5 else n⟩
theorem e_first : (Rows.laid_unicode_utf8_first : DataW Unit) = Lib.firstData := by kernel_rfl
theorem e_accept : (Rows.laid_unicode_utf8_acceptRanges : DataW Unit) = Lib.acceptData := by kernel_rfl
theorem tabs {W : World} (h : laidMetH Tryd.prog Rows.checkOpsRow.laid W) : Lib.Utf8Tabs 4 5 W := by
  have h1 : laidMet Tryd.prog Rows.checkOpsRow.laid W := h
  refine Go.Proofs.utf8Tabs_of_readsT (P := Tryd.prog) (ρ := ren) ⟨by kernel_rfl, by kernel_rfl, by kernel_rfl, by kernel_rfl⟩ ⟨by kernel_rfl, by kernel_rfl, by kernel_rfl, by kernel_rfl, by kernel_rfl, by kernel_rfl, by kernel_rfl⟩ ?_ ?_
  · rw [← e_first]; exact Lib.laidMet.reads h1 (.tail _ (.head _))
  · rw [← e_accept]; exact Lib.laidMet.reads h1 (.head _)
set_option maxRecDepth 100000 in
theorem contract (H : Type) (enc : TypeId × Value → H) (W : World) (base : Nat) (args : Array Value) (ds gs : List (DataW H)) (before : List MemPlace)
    (hval : ∀ (j : Nat) t v, Tryd.f5.params[j]? = some t → args[j]? = some v → Value.okWide Tryd.prog W .any base t v)
    (hW : DataW.Whole enc Tryd.prog Tryd.f5.params.toList Rows.checkOpsSpec.vars false W args.toList ds gs before) (hz : (DataW.weightsEach Tryd.prog (Tryd.f5.params.toList ++ []) (ds ++ gs)).all (· ≤ reachBytes) = true) (hL : laidMetH Tryd.prog Rows.checkOpsRow.laid W) :
    Calls Tryd.prog 5 args W fun e W' => ∃ v, e = .returned v ∧ Rows.checkOpsSpec.post enc Tryd.prog Tryd.f5 false true false false W args v W' := by
  have hW' := hW
  obtain ⟨p, q, hA0, hV, rfl, _, _⟩ := hW
  have hA : DataW.TrodAll enc Tryd.prog W 0 (fun _ => true) true Tryd.f5.params.toList args.toList ds p := hA0
  rw [Tryd.params5] at hA hval hz
  obtain ⟨v0, vs0, d0, ds0, p0, q0, hargs, rfl, rfl, h0, r0⟩ := trodAll_cons hA
  obtain ⟨v1, vs1, d1, ds1, p1, q1, rfl, rfl, rfl, h1, r1⟩ := trodAll_cons r0
  obtain ⟨v2, vs2, d2, ds2, p2, q2, rfl, rfl, rfl, h2, r2⟩ := trodAll_cons r1
  obtain ⟨v3, vs3, d3, ds3, p3, q3, rfl, rfl, rfl, h3, r3⟩ := trodAll_cons r2
  obtain ⟨rfl, rfl, rfl⟩ := trodAll_nil r3
  obtain rfl : args = #[v0, v1, v2, v3] := by cases args; simp_all
  obtain ⟨rfl, rfl⟩ := trodVars_none hV
  obtain ⟨A, b, c, rfl, hc0, hb0, hd0⟩ := open_bytesL Tryd.underlying22 Tryd.underlying5 (by kernel_rfl) (hval 0 22 v0 rfl rfl) h0
  have hr0 := reach_slice (n := b.length) (b := 1) hz (j := 0) rfl rfl Tryd.underlying22 (by kernel_rfl) hd0
  obtain ⟨s, rfl, hd1, hn1⟩ := open_strL Tryd.underlying9 (hval 1 9 v1 rfl rfl) h1
  have hr1 := reach_str hz (j := 1) rfl (by simpa using hd1)
  obtain ⟨sty, rfl, _, hn2⟩ := open_intL Tryd.underlying3 (hval 2 3 v2 rfl rfl) h2
  obtain ⟨tp, rfl, _, hn3⟩ := open_intL Tryd.underlying3 (hval 3 3 v3 rfl rfl) h3
  have hr : Ret Tryd.prog 5 [.slice A b.length c, str s, .int .i64 sty, .int .i64 tp] (Cx.start W) (.bool true) := law17_CheckOps hc0 (by omega) (by omega) (Hb.start ((lasts_rdB hb0).and (lasts_tabs (tabs hL))))
  refine (law_calls hr).mono fun e W' he => ⟨_, he.1, law_post lo rd rfl rfl Tryd.underlying4 hW' rfl he.2⟩
noncomputable def laidWorld (os : Os) : World :=
  { World.holding Tryd.prog os ⟨#[], #[], []⟩ with heap := 
      (((World.holding Tryd.prog os ⟨#[], #[], []⟩).heap.modify 5 fun | .cells _ t frozen => .cells #[.int .u8 128, .int .u8 191, .int .u8 160, .int .u8 191, .int .u8 128, .int .u8 159, .int .u8 144, .int .u8 191, .int .u8 128, .int .u8 143, .int .u8 0, .int .u8 0, .int .u8 0, .int .u8 0, .int .u8 0, .int .u8 0, .int .u8 0, .int .u8 0, .int .u8 0, .int .u8 0, .int .u8 0, .int .u8 0, .int .u8 0, .int .u8 0, .int .u8 0, .int .u8 0, .int .u8 0, .int .u8 0, .int .u8 0, .int .u8 0, .int .u8 0, .int .u8 0] t frozen | o => o).modify 4 fun | .cells _ t frozen => .cells (match Go.Pinned.utf8First with | .agg l => (l.map fun d => match d with | .lit (.int kk z) => Value.int kk z | _ => .bool false).toArray | _ => #[]) t frozen | o => o) }
theorem laid_met (os : Os) : laidMet Tryd.prog Rows.checkOpsRow.laid ((laidWorld os).forCall (fun _ _ => 0) ⟨#[], #[.slice none 0 0, .string ⟨#[]⟩, .int .i64 0, .int .i64 0], []⟩).memory :=
  laidMet_of_run' 8 (by kernel_rfl) (by kernel_rfl)
theorem reads (os : Os) {H : Type} (enc : TypeId × Value → H) : ∃ places, DataW.whole enc Tryd.prog ((laidWorld os).forCall (fun _ _ => 0) ⟨#[], #[.slice none 0 0, .string ⟨#[]⟩, .int .i64 0, .int .i64 0], []⟩).memory Tryd.f5.params.toList Rows.checkOpsSpec.vars false #[Value.slice none 0 0, .string ⟨#[]⟩, .int .i64 0, .int .i64 0].toList 8 = some ([.nil, .lit (.string []), .lit (.int .i64 0), .lit (.int .i64 0)], [], places) :=
  ⟨[], by kernel_rfl⟩
set_option maxRecDepth 100000 in
theorem lifted (os : Os) (started : os.Started) (H : Type) (enc : TypeId × Value → H) (F : Stop.Interp) :
    ReturnsInHanded {} Tryd.checked os 5 .any ((OpenSpec.ofChange Rows.checkOpsSpec).preRow enc Tryd.prog Tryd.f5 Rows.checkOpsRow.domain false Rows.checkOpsRow.laid) (((OpenSpec.ofChange Rows.checkOpsSpec).at F).post enc Tryd.prog Tryd.f5 false true false false) := by
  obtain ⟨places, hx⟩ := reads os enc
  refine returnsInHanded_of_row (C := Tryd.checked) (s := (OpenSpec.ofChange Rows.checkOpsSpec)) own started (by kernel_rfl) Tryd.func5
    (witness_row_at (enc := enc) (C := Tryd.checked) false (laidWorld os) #[.slice none 0 0, .string ⟨#[]⟩, .int .i64 0, .int .i64 0] rfl (by kernel_rfl) (by kernel_rfl) (by kernel_rfl)
      (OpenSpec.preRow_of_cond 8 hx (by kernel_rfl) (fun k hk => by cases hk) (by kernel_rfl) (laid_met os))) ?_
  intro W base args ds gs before hval hW _ hcond hz hL _ _
  exact contract H enc W base args ds gs before hval hW hz hL
theorem said : Rows.CheckOpsSaid :=
  OpenClaim.holds_of_cond 5 Tryd.f5 rfl rfl rfl rfl rfl rfl rfl ⟨rfl, rfl, rfl, rfl, rfl⟩ rfl rfl rfl rfl rfl (by kernel_rfl) Tryd.func5 (by kernel_rfl)
    (of_decide_eq_true (by kernel_rfl)) (by unfold Func.isWrapper; first | (rw [if_pos (by decide +kernel)]; kernel_rfl) | (rw [if_neg (by decide +kernel)]; exact ⟨rfl, rfl⟩))
    (fun os started H enc _ F => by rw [OpenClaim.pre_eq_preRow]; exact lifted os started H enc F)
theorem plain (f : FuncId) (fn : Func) (hf : Tryd.pinned.checked.prog.funcNamed "folio/foliolaw17.CheckOps" = some f) (hfn : Tryd.pinned.checked.prog.funcs[f]? = some fn) :
    true = Tryd.pinned.checked.prog.looks [] ∧ ∀ (j : Nat) t, fn.params[j]? = some t → Tryd.pinned.checked.prog.wantsStandIn t = false := by
  obtain rfl : f = 5 := Option.some.inj ((show Tryd.prog.funcNamed "folio/foliolaw17.CheckOps" = some 5 by kernel_rfl).symm.trans hf) |>.symm
  obtain rfl : fn = Tryd.f5 := (Option.some.inj (Tryd.func5.symm.trans hfn)).symm
  refine ⟨by kernel_rfl, fun j t ht => ?_⟩
  rw [Tryd.params5] at ht
  have h : t ∈ [22, 9, 3, 3] := by have := Array.mem_of_getElem? ht; simpa using this
  have hall : ([22, 9, 3, 3] : List TypeId).all (fun t => Tryd.prog.wantsStandIn t == false) = true := by kernel_rfl
  exact eq_of_beq (List.all_eq_true.1 hall t h)
theorem holds : Rows.CheckOpsCardSaid :=
  Claim7.holds_tied_plain_at .later [] _ _ _ _ said (fun _ h => by cases h) (by kernel_rfl) (fun _ h => by cases h) checkOps_row_tie rfl ⟨rfl, rfl⟩ (by kernel_rfl) rfl plain (by kernel_rfl)
end Go.Proofs.YtpaecijilnfkhaaDoor.checkOps
