/-
  Functions that are run on known arguments alone: what they compute is the interpreter's word, with a bound on every loop.
-/
import Derived.Test.YtabfljbbjpfcgaaGreatDoorQAD
import Derived.Shelf.Strconv.Itoa0
import Derived.Shelf.Strconv.Itoa1
import Derived.Shelf.LaysM
import Derived.Shelf.Strconv.Itoa2
import Derived.Shelf.Strconv.Itoa3
import Derived.Shelf.Unicode.Decode
import Derived.Shelf.Unicode.DecodeSlow
import Derived.Shelf.Unicode.DecodeAny
import Derived.Test.YtabfljbbjpfcgaaGreatDoorProg
import Derived.KernelRfl
import Derived.WalkKit
import Derived.Deep.LoopGhost
import Derived.Lib.Walk
import Derived.Lib.SliceRun
import Derived.Carry
import Derived.ChangeSame
import Derived.ChangeMaps5
import Derived.SizedLaws
import Derived.ChangeSlices
import Derived.SliceStrings
import Derived.ProofKit
import Derived.OpenShut
import Derived.Deep.DeepHandedRow
import Derived.Lib.LaidTab
namespace Go.Lf
open Go Go.Eng
structure RunS where
 c : Ctx
 code : Code
 an : Ann
 ps : List Par
 rs : List Ty
 sl : List ResultVar
noncomputable def RunS.F (r : RunS) : prodT (r.ps.map Par.ty) → Option (prodT (r.rs ++ outs r.ps)) := fnE r.c r.code r.an r.ps r.rs r.sl
def topsB (ps : List Par) (rs : List Ty) : Bool := (ps.all fun p => match p with | .val t => t.top | _ => true) && rs.all Ty.top
theorem run_ok {P : Program} {G : World → Prop} {f : FuncId} (r : RunS) (fn : Func) (hm : P.follows .mixedOrders = true) (hc : CtxOk P G r.c) (h1 : P.funcs[f]? = some fn) (h2 : fn.body = some r.code) (h3 : (fn.name == "runtime.NumGoroutine") = false)
  (h4 : Nat.beq fn.ntmps r.c.n = true) (h5 : fn.results = r.sl.toArray) (h6 : Nat.ble r.ps.length r.c.n = true) (h7 : topsB r.ps r.rs = true) : EntryOk P G f ⟨r.ps, r.rs, r.F⟩ := by
 unfold topsB at h7
 rw [Bool.and_eq_true, List.all_eq_true, List.all_eq_true] at h7
 exact fn_ok hm hc h1 h2 h3 (Nat.eq_of_beq_eq_true h4) h5 (Nat.le_of_ble_eq_true h6) (fun t ht => h7.1 _ ht) h7.2 fun z r h => h
noncomputable def recN {α β : Type} (B : (α → Option β) → α → Option β) : Nat → α → Option β
 | 0 => fun _ => none
 | n + 1 => B (recN B n)
theorem recN_ok {P : Program} {G : World → Prop} {f : Nat} {ps : List Par} {rs : List Ty} {B : (prodT (ps.map Par.ty) → Option (prodT (rs ++ outs ps))) → prodT (ps.map Par.ty) → Option (prodT (rs ++ outs ps))} (fn : Func) (hfn : P.funcs[f]? = some fn) (hname : (fn.name == "runtime.NumGoroutine") = false) (hb : fn.body.isNone = false) (hpt : topsB ps rs = true)
  (hs : ∀ self, EntryOk P G f ⟨ps, rs, self⟩ → EntryOk P G f ⟨ps, rs, B self⟩) : ∀ n, EntryOk P G f ⟨ps, rs, recN B n⟩
 | 0 => by
  unfold topsB at hpt
  rw [Bool.and_eq_true, List.all_eq_true, List.all_eq_true] at hpt
  exact ⟨GoFn.mk fn hfn hname hb, fun t ht => hpt.1 _ ht, fun z r hz => by cases (show none = some r from hz)⟩
 | n + 1 => hs _ (recN_ok fn hfn hname hb hpt hs n)
end Go.Lf
/- The shelf's contracts, laid at this program by the kit's tools. -/
namespace Go.Proofs
open Go.Shelf
def Tryz.laysM171_ren : Go.Shelf.Ren := ⟨fun | 171 => 97 | 243 => 132 | 246 => 160 | 283 => 172 | 284 => 173 | 285 => 174 | 286 => 175 | 129 => 177 | 317 => 176 | 318 => 178 | 319 => 179 | 320 => 180 | 337 => 181 | 338 => 182 | n => n, fun | 3 => 3 | 9 => 9 | 2 => 2 | 4 => 4 | 171 => 247 | 0 => 0 | 53 => 167 | 37 => 23 | 5 => 5 | 173 => 250 | 212 => 257 | 51 => 258 | 20 => 20 | 213 => 259 | 46 => 164 | 232 => 262 | 233 => 263 | n => n, fun | 17 => 2 | 18 => 3 | 19 => 4 | n => n⟩
theorem Tryz.laysM171 : Go.Proofs.LaysM.n171 Tryz.prog Tryz.laysM171_ren := {
 mixed := by kernel_rfl
 f129 := Tryz.func177.trans (congrArg some (by kernel_rfl))
 f171 := Tryz.func97.trans (congrArg some (by kernel_rfl))
 f243 := Tryz.func132.trans (congrArg some (by kernel_rfl))
 f246 := Tryz.func160.trans (congrArg some (by kernel_rfl))
 f283 := Tryz.func172.trans (congrArg some (by kernel_rfl))
 f284 := Tryz.func173.trans (congrArg some (by kernel_rfl))
 f285 := Tryz.func174.trans (congrArg some (by kernel_rfl))
 f286 := Tryz.func175.trans (congrArg some (by kernel_rfl))
 f317 := Tryz.func176.trans (congrArg some (by kernel_rfl))
 f318 := Tryz.func178.trans (congrArg some (by kernel_rfl))
 f319 := Tryz.func179.trans (congrArg some (by kernel_rfl))
 f320 := Tryz.func180.trans (congrArg some (by kernel_rfl))
 f337 := Tryz.func181.trans (congrArg some (by kernel_rfl))
 f338 := Tryz.func182.trans (congrArg some (by kernel_rfl))
 t0 := Tryz.underlying0
 a0 := Tryz.isAgg0
 z0 := Tryz.sizeOf0
 v0 := Tryz.zeroValue0
 t2 := Tryz.underlying2
 a2 := Tryz.isAgg2
 z2 := Tryz.sizeOf2
 v2 := Tryz.zeroValue2
 t3 := Tryz.underlying3
 a3 := Tryz.isAgg3
 z3 := Tryz.sizeOf3
 v3 := Tryz.zeroValue3
 t4 := Tryz.underlying4
 a4 := Tryz.isAgg4
 z4 := Tryz.sizeOf4
 v4 := Tryz.zeroValue4
 t5 := Tryz.underlying5
 a5 := Tryz.isAgg5
 z5 := Tryz.sizeOf5
 v5 := Tryz.zeroValue5
 t9 := Tryz.underlying9
 a9 := Tryz.isAgg9
 z9 := Tryz.sizeOf9
 v9 := Tryz.zeroValue9
 t20 := Tryz.underlying20
 a20 := Tryz.isAgg20
 z20 := Tryz.sizeOf20
 v20 := Tryz.zeroValue20
 t37 := Tryz.underlying23
 a37 := Tryz.isAgg23
 z37 := Tryz.sizeOf23
 v37 := Tryz.zeroValue23
 t46 := Tryz.underlying164
 a46 := Tryz.isAgg164
 z46 := Tryz.sizeOf164
 v46 := Tryz.zeroValue164
 t51 := Tryz.underlying258
 a51 := Tryz.isAgg258
 z51 := Tryz.sizeOf258
 v51 := Tryz.zeroValue258
 t53 := Tryz.underlying167
 a53 := Tryz.isAgg167
 z53 := Tryz.sizeOf167
 v53 := Tryz.zeroValue167
 t171 := Tryz.underlying247
 a171 := Tryz.isAgg247
 z171 := Tryz.sizeOf247
 v171 := Tryz.zeroValue247
 t173 := Tryz.underlying250
 a173 := Tryz.isAgg250
 z173 := Tryz.sizeOf250
 v173 := Tryz.zeroValue250
 t212 := Tryz.underlying257
 a212 := Tryz.isAgg257
 z212 := Tryz.sizeOf257
 v212 := Tryz.zeroValue257
 t213 := Tryz.underlying259
 a213 := Tryz.isAgg259
 z213 := Tryz.sizeOf259
 t232 := Tryz.underlying262
 a232 := Tryz.isAgg262
 z232 := Tryz.sizeOf262
 v232 := Tryz.zeroValue262
 t233 := Tryz.underlying263
 a233 := Tryz.isAgg263
 z233 := Tryz.sizeOf263
 v233 := Tryz.zeroValue263
 g17 := by kernel_rfl
 g18 := by kernel_rfl
 g19 := by kernel_rfl
 i0 := by kernel_rfl
 i2 := by kernel_rfl
 i3 := by kernel_rfl
 i4 := by kernel_rfl
 i5 := by kernel_rfl
 i9 := by kernel_rfl
 i20 := by kernel_rfl
 i37 := by kernel_rfl
 i46 := by kernel_rfl
 i51 := by kernel_rfl
 i53 := by kernel_rfl
 i171 := by kernel_rfl
 i173 := by kernel_rfl
 i212 := by kernel_rfl
 i232 := by kernel_rfl
 i233 := by kernel_rfl
 m17 := by kernel_rfl
 m18 := by kernel_rfl
 m19 := by kernel_rfl }
open Go.RowKit Go.Sort Go.Lib in
theorem Tryz.strconv_Itoa (n : Int) (h0 : -9223372036854775808 ≤ n) (h1 : n ≤ 9223372036854775807) (w : World) (htab : Lib.TabIs Tryz.prog w "internal/strconv.uint64pow10" .u64 Lib.pow10Tab) :
  Calls Tryz.prog 97 #[.int .i64 n] w fun e w' => e = .returned (.string ⟨(Lib.itoa n).toArray⟩) ∧ ∃ k os, w' = grow (w.drewN k) os := Any.strconv_Itoa Tryz.laysM171 n h0 h1 w htab
def Tryz.lays197_ren : Go.Shelf.Ren := ⟨fun | 197 => 144 | 260 => 169 | n => n, fun | 9 => 9 | 21 => 21 | 3 => 3 | 4 => 4 | 5 => 5 | 105 => 224 | 119 => 252 | 0 => 0 | 46 => 164 | 139 => 255 | 138 => 254 | n => n, fun | 3 => 0 | 4 => 1 | n => n⟩
theorem Tryz.lays197 : Go.Proofs.Lays.n197 Tryz.prog Tryz.lays197_ren := {
 mixed := by kernel_rfl
 f197 := Tryz.func144.trans (congrArg some (by kernel_rfl))
 f260 := Tryz.func169.trans (congrArg some (by kernel_rfl))
 t0 := Tryz.underlying0
 a0 := Tryz.isAgg0
 z0 := Tryz.sizeOf0
 v0 := Tryz.zeroValue0
 t3 := Tryz.underlying3
 a3 := Tryz.isAgg3
 z3 := Tryz.sizeOf3
 v3 := Tryz.zeroValue3
 t4 := Tryz.underlying4
 a4 := Tryz.isAgg4
 z4 := Tryz.sizeOf4
 v4 := Tryz.zeroValue4
 t5 := Tryz.underlying5
 a5 := Tryz.isAgg5
 z5 := Tryz.sizeOf5
 v5 := Tryz.zeroValue5
 t9 := Tryz.underlying9
 a9 := Tryz.isAgg9
 z9 := Tryz.sizeOf9
 v9 := Tryz.zeroValue9
 t21 := Tryz.underlying21
 a21 := Tryz.isAgg21
 z21 := Tryz.sizeOf21
 v21 := Tryz.zeroValue21
 t46 := Tryz.underlying164
 a46 := Tryz.isAgg164
 z46 := Tryz.sizeOf164
 v46 := Tryz.zeroValue164
 t105 := Tryz.underlying224
 a105 := Tryz.isAgg224
 z105 := Tryz.sizeOf224
 v105 := Tryz.zeroValue224
 t119 := Tryz.underlying252
 a119 := Tryz.isAgg252
 z119 := Tryz.sizeOf252
 t138 := Tryz.underlying254
 a138 := Tryz.isAgg254
 z138 := Tryz.sizeOf254
 v138 := Tryz.zeroValue254
 t139 := Tryz.underlying255
 a139 := Tryz.isAgg255
 z139 := Tryz.sizeOf255
 v139 := Tryz.zeroValue255
 g3 := by kernel_rfl
 g4 := by kernel_rfl }
open Go.RowKit Go.Lib in
theorem Tryz.utf8_DecodeRuneInString (s : ByteArray) (w : World) (hT : Lib.Utf8Tabs 0 1 w) :
  Calls Tryz.prog 144 #[.string s] w fun e w' => e = .returned (.tuple #[.int .i32 (Lib.decodeGo s).1, .int .i64 (Lib.decodeGo s).2]) ∧ Below w.heap.size w w' := Any.utf8_DecodeRuneInString Tryz.lays197 s w hT
end Go.Proofs
/-
  From a contract of the library to an entry.
-/
namespace Go.Lf
open Go Go.Eng Go.RowKit
theorem argsR_gs {φ : Phi} {ps : List Par} {z : prodT (ps.map Par.ty)} {vals : List Value} {gs : List (Nat × Nat)} {hs : List Chunk} (h : ArgsR φ ps z vals gs hs) (ho : outs ps = []) : gs = [] := by
 induction h with
 | nil => rfl
 | val _ _ _ ih => exact ih ho
 | cfn _ ih => exact ih ho
 | obj _ _ _ => simp [outs] at ho
theorem hb_below {C : Cx} {w w' : World} {I : World → Prop} (hb : Hb C w [] I) (h : Below w.heap.size w w') : Hb C w' [] I :=
 hb.grow ⟨h.os, h.tape, h.output, h.size, fun k hk _ _ => h.block k hk, fun k m hk _ _ => Same.of_block (h.block k hk), fun c hc => (by cases hc)⟩
section
variable {P : Program} {G : World → Prop} {f : Nat} {ps : List Par} {rs : List Ty} {F : prodT (ps.map Par.ty) → Option (prodT (rs ++ outs ps))}
theorem drop_obs (ho : outs ps = []) (r : prodT (rs ++ outs ps)) : (unProd (rs ++ outs ps) r).drop rs.length = [] := by
 refine List.drop_eq_nil_of_le ?_
 have := congrArg List.length (unProd_tys (rs ++ outs ps) r)
 simp [ho] at this
 omega
theorem ent_calls (go : GoFn P f) (top : ∀ t, Par.val t ∈ ps → t.top = true) (ho : outs ps = [])
  (h : ∀ z r w φ vals gs hs, F z = some r → G w → ArgsR φ ps z vals gs hs → Calls P f vals.toArray w fun e w' => (∃ vs, e = .returned (resVal vs) ∧ TupR φ ((unProd (rs ++ outs ps) r).take rs.length) vs []) ∧ Below w.heap.size w w') : EntryOk P G f ⟨ps, rs, F⟩ := by
 refine ⟨go, top, fun z r hz C φ vals gs hs ha hb => ?_⟩
 have hb0 : Hb C C.w0 [] (Inv G φ) := (Sub.nil hs).hb hb
 refine (h z r C.w0 φ vals gs hs hz hb.get.1 ha).mono ?_
 rintro e w' ⟨⟨vs, rfl, ht⟩, hbl⟩
 have hg := argsR_gs ha ho
 subst hg
 refine ⟨_, φ, [], [], rfl, φ.le_refl, hb_below hb0 hbl, ⟨vs, ht, rfl⟩, ?_⟩
 rw [drop_obs ho]
 exact .nil
end
end Go.Lf
/- The library's functions, as entries. -/
namespace Go.Fn
open Go Go.Lf Go.Eng Go.RowKit Go.Proofs Go.Shelf
def GG (w : World) : Prop := Lib.TabIs Tryz.prog w "internal/strconv.uint64pow10" .u64 Lib.pow10Tab ∧ Lib.Utf8Tabs 0 1 w
def strconv_Itoa (n : Int) : Option (List UInt8) := if -9223372036854775808 ≤ n ∧ n ≤ 9223372036854775807 then some (Lib.itoa n) else none
def strconv_ItoaEnt : Nat × Entry := (97, ⟨[.val (.int .i64)], [.str], fun z => strconv_Itoa z⟩)
theorem below_growN {w : World} (k : Nat) (os : Array Obj) : Below w.heap.size w (Go.Sort.grow (w.drewN k) os) :=
 ⟨rfl, rfl, rfl, by show w.heap.size ≤ (w.heap ++ os).size; rw [Array.size_append]; omega, fun j hj => Go.Sort.heap_grow_old (w.drewN k) os hj⟩
theorem strconv_Itoa_ok : EntryOk Tryz.prog GG 97 strconv_ItoaEnt.2 := by
 refine ent_calls (ps := [.val (.int .i64)]) (rs := [.str]) (GoFn.mk Tryz.f97 (by kernel_rfl) (by kernel_rfl) (by kernel_rfl)) (by simp [Ty.top]) rfl fun z r w φ vals gs hs hz hG ha => ?_
 have hz : strconv_Itoa z = some r := hz
 unfold strconv_Itoa at hz
 split at hz
 case isFalse => cases hz
 case isTrue h01 =>
 injection hz with hz
 subst hz
 cases ha with
 | val h1 h2 h3 =>
 cases h3
 obtain ⟨rfl, _⟩ := h2
 refine (Tryz.strconv_Itoa z h01.1 h01.2 w hG.1).mono ?_
 rintro e w' ⟨rfl, k, os, rfl⟩
 exact ⟨⟨[Eng.str (Lib.itoa z)], rfl, TupR.cons (t := .str) (x := Lib.itoa z) (cs := [_]) (h := []) (hs := []) rfl ⟨rfl, rfl⟩ .nil⟩, below_growN k os⟩
def utf8_Decode (a0 : List UInt8) : Option (Int × Int) := some (((Lib.decodeGo ⟨a0.toArray⟩).1 : Int), ((Lib.decodeGo ⟨a0.toArray⟩).2 : Int))
def utf8_DecodeEnt : Nat × Entry := (144, ⟨[.val .str], [.int .i32, .int .i64], fun z => utf8_Decode z⟩)
theorem utf8_Decode_ok : EntryOk Tryz.prog GG 144 utf8_DecodeEnt.2 := by
 refine ent_calls (ps := [.val .str]) (rs := [.int .i32, .int .i64]) (GoFn.mk Tryz.f144 (by kernel_rfl) (by kernel_rfl) (by kernel_rfl)) (by simp [Ty.top]) rfl fun (a0 : List UInt8) r w φ vals gs hs hz hG ha => ?_
 have hz : utf8_Decode a0 = some r := hz
 unfold utf8_Decode at hz
 injection hz with hz
 subst hz
 cases ha with
 | val h01 h02 h03 =>
 cases h03
 obtain ⟨rfl, _⟩ := h02
 refine (Tryz.utf8_DecodeRuneInString ⟨a0.toArray⟩ w hG.2).mono ?_
 rintro e w' ⟨rfl, hb⟩
 exact ⟨⟨[.int .i32 ((Lib.decodeGo ⟨a0.toArray⟩).1 : Int), .int .i64 ((Lib.decodeGo ⟨a0.toArray⟩).2 : Int)], rfl, (TupR.cons (t := .int .i32) (cs := [_]) (h := []) (hs := []) rfl ⟨rfl, rfl⟩ (TupR.cons (t := .int .i64) (cs := [_]) (h := []) (hs := []) rfl ⟨rfl, rfl⟩ .nil))⟩, hb⟩
end Go.Fn
/-
  slices.Clone, from what its walk says to an entry: a new slice of the same elements.
-/
namespace Go.Lf
open Go Go.Eng Go.RowKit
section
variable {P : Program} {G : World → Prop} {f : Nat} {T : Ty} {el sz : Nat}
theorem clone_hb {C : Cx} {φ : Phi} {w' : World} {v' : Value} {size n : Nat} {cs : List Value} (hb0 : Hb C C.w0 [] (Inv G φ)) (hrow : w'.ownsRow C.w0.heap.size el size v' n cs) (hbl : Below C.w0.heap.size C.w0 w') (p : Bool) : Hb C w' [.row p v' el size n cs] (Inv G φ) := by
 have hlt := World.ownsRow.lt hrow
 refine hb0.step ⟨hbl.os, hbl.tape, hbl.output, hbl.size, fun k hk _ _ => hbl.block k hk, fun k m hk _ _ => Same.of_block (hbl.block k hk), fun c hc => (by cases hc)⟩ (fun c hc => ?_) (fun c hc g hg => ?_) ?_ fun c hc => (by cases hc)
 ·have : c = _ := List.mem_singleton.1 hc
  subst this
  refine ⟨hrow.1, ?_⟩
  rcases hrow.2 with h2 | ⟨g, cap, cur, hv, hg, r⟩
  ·exact .inl h2
  ·exact .inr ⟨g, cap, cur, hv, Nat.zero_le _, r⟩
 ·have : c = _ := List.mem_singleton.1 hc
  subst this
  exact .inr (hlt g hg).1
 ·exact List.pairwise_singleton _ _
structure CloneWalk (P : Program) (f el size bytes : Nat) : Prop where
 some : ∀ (ad : Addr) (n c : Nat) (cs : List Value) (w : World), cs.length = n * size → n * bytes ≤ 140737488355328 → (∀ j u, cs[j]? = Option.some u → w.cell? (ad.add j) = Option.some u) → (∀ u ∈ cs, u.oneCell' = true) →
  Calls P f #[.slice (Option.some ad) n c] w fun e w' => ∃ v', e = .returned v' ∧ w'.ownsRow w.heap.size el size v' n cs ∧ Below w.heap.size w w'
 none : ∀ (n c : Nat) (w : World), Calls P f #[.slice Option.none n c] w fun e w' => e = .returned (.slice Option.none 0 0) ∧ w' = w
theorem clone_core (hW : CloneWalk P f el T.size sz) {z : List T.den} {r : List T.den} (hz : app sz ([] : List T.den) z = some r) {C : Cx} {φ : Phi} {v : Value} (hr : Rp φ (.sl T) z [v] []) (hb : Hb C C.w0 [] (Inv G φ)) (p : Bool) :
  Calls P f #[v] C.w0 fun x w' => ∃ A c css, x = .returned (.slice A r.length c) ∧ r.length ≤ c ∧ All2 (fun x cs => Rp φ T x cs []) r css ∧ (0 < r.length → A.isSome = true) ∧ Hb C w' [.row p (.slice A r.length c) el T.size r.length css.flatten] (Inv G φ) := by
 obtain ⟨hlim, rfl⟩ := app_ok hz
 simp only [List.length_nil, Nat.zero_add, List.nil_append] at hlim ⊢
 obtain ⟨A, c, css, e1, h2, h3, h4, _⟩ := hr
 injection e1 with e1
 subst e1
 have hlen : css.flatten.length = List.length r * T.size := by
  rw [h3.length]
  exact flat_len _ fun c hcm => by
   obtain ⟨i, hi⟩ := List.getElem?_of_mem hcm
   have hlt := (List.getElem?_eq_some_iff.1 hi).1
   rw [← h3.length] at hlt
   obtain ⟨y, hy1, hy2⟩ := h3.get (List.getElem?_eq_getElem hlt)
   rw [hi] at hy1
   cases hy1
   exact Rp.len hy2
 have hone : ∀ u ∈ css.flatten, u.oneCell' = true := fun u hu => by
  obtain ⟨cs, hcs, hu⟩ := List.mem_flatten.1 hu
  obtain ⟨i, hi⟩ := List.getElem?_of_mem hcs
  have hlt := (List.getElem?_eq_some_iff.1 hi).1
  rw [← h3.length] at hlt
  obtain ⟨y, hy1, hy2⟩ := h3.get (List.getElem?_eq_getElem hlt)
  rw [hi] at hy1
  cases hy1
  exact Rp.one hy2 u hu
 cases A with
 | none =>
  have hz0 : r = [] := by
   cases r with
   | nil => rfl
   | cons x l => obtain ⟨ad, h5, _⟩ := h4 (by simp); cases h5
  subst hz0
  refine (hW.none _ _ _).mono ?_
  rintro e w' ⟨rfl, rfl⟩
  exact ⟨none, 0, [], rfl, Nat.le_refl _, .nil, fun h => absurd h (by simp), (Sub.nilrow p el T.size).hb hb⟩
 | some ad =>
  refine (hW.some ad _ c css.flatten _ hlen hlim (fun j u hu => ?_) hone).mono ?_
  ·have hlt := (List.getElem?_eq_some_iff.1 hu).1
   have hpos : 0 < List.length r := by
    rcases Nat.eq_zero_or_pos (List.length r) with h0 | h0
    ·rw [hlen, h0, Nat.zero_mul] at hlt; omega
    ·exact h0
   obtain ⟨ad', h5, h6⟩ := h4 hpos
   injection h5 with h5
   subst h5
   exact hb.get.2 _ _ (h6 j u hu)
  ·rintro e w' ⟨v', rfl, hown, hbl⟩
   have hb1 := clone_hb hb hown hbl p
   rcases hown.2 with ⟨hv, hz0⟩ | ⟨g, cap, cur, hv, _, _, hnc, _⟩
   ·subst hv
    have hz1 : r = [] := List.length_eq_zero_iff.1 (by omega)
    subst hz1
    cases h3
    exact ⟨none, 0, [], rfl, Nat.le_refl _, .nil, fun h => absurd h (by simp), hb1⟩
   ·subst hv
    exact ⟨_, cap, css, rfl, hnc, h3, fun _ => rfl, hb1⟩
theorem clone_args {φ : Phi} {z : List T.den} {vals : List Value} {gs : List (Nat × Nat)} {hs : List Chunk} (ha : ArgsR φ [.val (.sl T)] z vals gs hs) : ∃ v, vals = [v] ∧ gs = [] ∧ hs = [] ∧ Rp φ (.sl T) z [v] [] := by
 cases ha with
 | val h1 h2 h3 =>
  cases h3
  obtain ⟨A, c, css, rfl, h4, h5, h6, rfl⟩ := h2
  exact ⟨_, rfl, rfl, rfl, A, c, css, rfl, h4, h5, h6, rfl⟩
theorem ent_cloneM (go : GoFn P f) (hW : CloneWalk P f el T.size sz) : EntryOk P G f ⟨[.val (.sl T)], [.mr el T], fun z => app sz ([] : List T.den) z⟩ := by
 refine ⟨go, fun t h => ?_, fun z r hz C φ vals gs hs ha hb => ?_⟩
 ·have h : Par.val t ∈ ([.val (.sl T)] : List Par) := h
  simp at h
  rw [h]; rfl
 ·obtain ⟨v, rfl, rfl, rfl, hr⟩ := clone_args ha
  refine (clone_core hW hz hr hb false).mono ?_
  rintro x w' ⟨A, c, css, rfl, h1, h2, h3, h4⟩
  exact ⟨_, φ, [_], [], rfl, φ.le_refl, h4, ⟨[_], TupR.cons (t := .mr el T) (x := r) (cs := [_]) (h := [_]) (hs := []) rfl ⟨A, c, css, rfl, h1, h2, h3, rfl⟩ .nil, rfl⟩, .nil⟩
theorem ent_cloneR (go : GoFn P f) (hpos : 0 < T.size) (hW : CloneWalk P f el T.size sz) : EntryOk P G f ⟨[.val (.sl T)], [.rw el T], fun z => app sz ([] : List T.den) z⟩ := by
 refine ⟨go, fun t h => ?_, fun z r hz C φ vals gs hs ha hb => ?_⟩
 ·have h : Par.val t ∈ ([.val (.sl T)] : List Par) := h
  simp at h
  rw [h]; rfl
 ·obtain ⟨v, rfl, rfl, rfl, hr⟩ := clone_args ha
  refine (clone_core hW hz hr hb true).mono ?_
  rintro x w' ⟨A, c, css, rfl, h1, h2, h3, h4⟩
  obtain ⟨φ', f1, f2, f3⟩ := grow_fact hpos h4
  exact ⟨_, φ', [_], [], rfl, f1, f3, ⟨[_], TupR.cons (t := .rw el T) (x := r) (cs := [_]) (h := [_]) (hs := []) rfl ⟨A, c, css, rfl, h1, h2.imp fun _ _ h => h.mono f1, f2, rfl⟩ .nil, rfl⟩, .nil⟩
end
end Go.Lf
/- slices.Clone, walked: a new slice of the same elements. -/
namespace Go.Fn
open Go Go.Lf Go.Eng Go.RowKit Go.Proofs Go.Lib
def clone_GT : Ty := (.st (.pr .str (.pr (.int .i64) (.pr (.st (.pr (.int .i64) (.pr (.int .i64) .unit))) (.pr (.int .i64) .unit)))))
set_option maxHeartbeats 2000000 in
set_option maxRecDepth 100000 in
theorem clone_G_walk : CloneWalk Tryz.prog 54 78 (Ty.size clone_GT) 48 := by
 have hap : AppTy Tryz.prog 50 78 (Ty.size clone_GT) 48 := appB_ok (by kernel_rfl)
 have t50 := Tryz.underlying50
 have u50 : ∀ w, Sem.run Tryz.prog (underlying 50) w = .ok (TypeDesc.slice 78) w := run_underlying t50
 have q50 : ∀ (w : World) (a : Option Addr) (n c n' c' : Nat), (binOp .eql 50 (.slice a n c) (.slice none n' c')).run Tryz.prog w = .ok (.bool a.isNone) w := fun w a n c n' c' => Lib.run_eql_slice_nil w _ _ a n c n' c' t50
 obtain ⟨i0, z0, ht, hi, hz0, hz1, hz2, hz3, hz4⟩ := hap
 have hcond := hz4
 refine ⟨fun ad n c cs w hl hbig hc h1 => ?_, fun n c w => ?_⟩
 ·have A : Aside (∀ j u, cs[j]? = some u → w.cell? (ad.add j) = some u) := hc
  have H1 : Aside (∀ u ∈ cs, u.oneCell' = true) := h1
  clear hc h1
  go_enter Tryz.func54, Tryz.ntmps54
  go_wp2_with (at_builtin; refine wpList_append_own _ rfl _ _ 50 rfl w.heap.size 78 i0 z0 (Ty.size clone_GT) 48 t50 hi hz0 hz1 hz2 hz3 hz4 _ _ _ rfl (World.ownsRow_made w #[] 0 (Nat.le_refl _) (Nat.zero_le _) rfl) ad n c cs rfl hl ?qc2 H1.out ?qc4 ?qc5 ?qc6 ?_)
  case qc2 => exact fun j u hu => Lib.cell?_alloc_some _ (A.out j u hu)
  case qc4 => unfold maxLen; omega
  case qc5 => omega
  case qc6 => simp
  intro v' w1 hown hgrow hnil
  go_wp2
  go_ret
  refine ⟨v', rfl, by simpa using hown, ?_⟩
  exact ((Below.refl _ w).alloc (Nat.le_refl _) _).grown hgrow (by simp) (by intro k hk; simp [Value.ownBlock] at hk; omega)
 ·go_enter Tryz.func54, Tryz.ntmps54
  go_wp2
  go_ret
  exact ⟨rfl, rfl⟩
def clone_G (z : List (Ty.den clone_GT)) : Option (List (Ty.den clone_GT)) := app 48 ([] : List (Ty.den clone_GT)) z
def clone_GEnt : Nat × Entry := (54, ⟨[.val (.sl clone_GT)], [.rw 78 clone_GT], fun z => clone_G z⟩)
theorem clone_G_ok : EntryOk Tryz.prog GG 54 clone_GEnt.2 := ent_cloneR (GoFn.mk Tryz.f54 (by kernel_rfl) (by kernel_rfl) (by kernel_rfl)) (by decide) clone_G_walk
def clone_FT : Ty := (.st (.pr (.int .i64) (.pr (.int .i64) (.pr (.st (.pr (.int .i64) (.pr (.int .i64) .unit))) .unit))))
set_option maxHeartbeats 2000000 in
set_option maxRecDepth 100000 in
theorem clone_F_walk : CloneWalk Tryz.prog 56 76 (Ty.size clone_FT) 32 := by
 have hap : AppTy Tryz.prog 48 76 (Ty.size clone_FT) 32 := appB_ok (by kernel_rfl)
 have t48 := Tryz.underlying48
 have u48 : ∀ w, Sem.run Tryz.prog (underlying 48) w = .ok (TypeDesc.slice 76) w := run_underlying t48
 have q48 : ∀ (w : World) (a : Option Addr) (n c n' c' : Nat), (binOp .eql 48 (.slice a n c) (.slice none n' c')).run Tryz.prog w = .ok (.bool a.isNone) w := fun w a n c n' c' => Lib.run_eql_slice_nil w _ _ a n c n' c' t48
 obtain ⟨i0, z0, ht, hi, hz0, hz1, hz2, hz3, hz4⟩ := hap
 have hcond := hz4
 refine ⟨fun ad n c cs w hl hbig hc h1 => ?_, fun n c w => ?_⟩
 ·have A : Aside (∀ j u, cs[j]? = some u → w.cell? (ad.add j) = some u) := hc
  have H1 : Aside (∀ u ∈ cs, u.oneCell' = true) := h1
  clear hc h1
  go_enter Tryz.func56, Tryz.ntmps56
  go_wp2_with (at_builtin; refine wpList_append_own _ rfl _ _ 48 rfl w.heap.size 76 i0 z0 (Ty.size clone_FT) 32 t48 hi hz0 hz1 hz2 hz3 hz4 _ _ _ rfl (World.ownsRow_made w #[] 0 (Nat.le_refl _) (Nat.zero_le _) rfl) ad n c cs rfl hl ?qc2 H1.out ?qc4 ?qc5 ?qc6 ?_)
  case qc2 => exact fun j u hu => Lib.cell?_alloc_some _ (A.out j u hu)
  case qc4 => unfold maxLen; omega
  case qc5 => omega
  case qc6 => simp
  intro v' w1 hown hgrow hnil
  go_wp2
  go_ret
  refine ⟨v', rfl, by simpa using hown, ?_⟩
  exact ((Below.refl _ w).alloc (Nat.le_refl _) _).grown hgrow (by simp) (by intro k hk; simp [Value.ownBlock] at hk; omega)
 ·go_enter Tryz.func56, Tryz.ntmps56
  go_wp2
  go_ret
  exact ⟨rfl, rfl⟩
def clone_F (z : List (Ty.den clone_FT)) : Option (List (Ty.den clone_FT)) := app 32 ([] : List (Ty.den clone_FT)) z
def clone_FEnt : Nat × Entry := (56, ⟨[.val (.sl clone_FT)], [.mr 76 clone_FT], fun z => clone_F z⟩)
theorem clone_F_ok : EntryOk Tryz.prog GG 56 clone_FEnt.2 := ent_cloneM (GoFn.mk Tryz.f56 (by kernel_rfl) (by kernel_rfl) (by kernel_rfl)) clone_F_walk
end Go.Fn

open Go Go.Lf
set_option maxRecDepth 10000
namespace Go.Fn
abbrev qY0 : Go.Lf.Ty := (.pr .str (.pr (.sl (.int .i64)) .unit))
abbrev qY1 : Go.Lf.Ty := (.pr (.int .i64) (.pr (.int .i64) .unit))
abbrev qY2 : Go.Lf.Ty := (.pr (.int .i32) (.pr (.int .i32) .unit))
abbrev qT3 : Type := ((List (UInt8)) × ((Int) × ((Int) × (Unit))))
abbrev qT4 : Type := ((Int) × ((Int) × ((Int) × ((Int) × (Unit)))))
abbrev qY5 : Go.Lf.Ty := (.pr (.int .i64) (.pr (.sl (.int .i64)) .unit))
abbrev qY6 : Go.Lf.Ty := (.pr (.int .i64) (.pr (.rw 3 (.int .i64)) .unit))
abbrev qY7 : Go.Lf.Ty := (.st (.pr .bool (.pr (.int .i64) (.pr .str .unit))))
abbrev qY8 : Go.Lf.Ty := (.st (.pr (.int .i64) qY1))
abbrev qY9 : Go.Lf.Ty := (.pr (.mr 5 (.int .u8)) qY1)
abbrev qY10 : Go.Lf.Ty := (.pr (.int .i64) (.pr .str qY1))
abbrev qY11 : Go.Lf.Ty := (.pr (.int .i64) (.pr (.int .i64) qY0))
abbrev qY12 : Go.Lf.Ty := (.pr (.st qY1) (.pr (.int .i64) .unit))
abbrev qY13 : Go.Lf.Ty := (.pr (.int .i64) (.pr (.int .i64) qY1))
abbrev qY14 : Go.Lf.Ty := (.pr (.int .i64) (.pr (.st qY1) .unit))
abbrev qY15 : Go.Lf.Ty := (.pr (.int .i64) (.pr (.int .i64) qY5))
abbrev qY16 : Go.Lf.Ty := (.pr (.int .i64) (.pr (.int .i64) qY6))
abbrev qT17 : Type := ((Int) × ((Int) × ((Int) × ((Int) × qT3))))
abbrev qY18 : Go.Lf.Ty := (.pr .str (.pr qY8 .unit))
abbrev qY19 : Go.Lf.Ty := (.st (.pr (.int .i64) qY14))
abbrev qY20 : Go.Lf.Ty := (.st (.pr (.int .i64) qY13))
abbrev qY21 : Go.Lf.Ty := (.pr .str (.pr (.int .i64) qY12))
abbrev qY22 : Go.Lf.Ty := (.pr (.int .i64) (.pr (.int .i64) qY10))
abbrev qY23 : Go.Lf.Ty := (.st (.pr (.int .i64) qY15))
abbrev qY24 : Go.Lf.Ty := (.st (.pr (.int .i64) qY16))
abbrev qY25 : Go.Lf.Ty := (.sl (.st (.pr .str qY18)))
abbrev qY26 : Go.Lf.Ty := (.rw 50 (.sl (.st qY21)))
abbrev qT27 : Type := (((Int) × qT4) × (((Int) × qT4) × (Unit)))
abbrev qY28 : Go.Lf.Ty := (.pr (.mr 78 (.st qY21)) .unit)
abbrev qY29 : Go.Lf.Ty := (.rw 24 (.sl (.sl (.st qY21))))
abbrev qY30 : Go.Lf.Ty := (.pr (.dead 78 (.st qY21)) .unit)
abbrev qY31 : Go.Lf.Ty := (.pr (.int .i64) (.pr (.int .i64) qY22))
abbrev qY32 : Go.Lf.Ty := (.pr (.sl (.sl (.st qY21))) (.pr .bool .unit))
abbrev qY33 : Go.Lf.Ty := (.pr qY26 (.pr .bool .unit))
abbrev qY34 : Go.Lf.Ty := (.pr (.sl (.st qY1)) qY32)
abbrev qY35 : Go.Lf.Ty := (.pr (.rw 80 (.st qY1)) qY33)
abbrev qY36 : Go.Lf.Ty := (.pr qY19 (.pr qY19 .unit))
abbrev qY37 : Go.Lf.Ty := (.pr qY20 (.pr qY20 .unit))
abbrev qY38 : Go.Lf.Ty := (.pr .bool (.pr (.int .i64) qY34))
abbrev qY39 : Go.Lf.Ty := (.pr .bool (.pr (.int .i64) qY35))
abbrev qT40 : Type := (((Int) × qT4) × (((Int) × qT4) × qT27))
abbrev qY41 : Go.Lf.Ty := (.pr .str (.pr (.int .i64) qY38))
abbrev qY42 : Go.Lf.Ty := (.pr .str (.pr (.int .i64) qY39))
abbrev qY43 : Go.Lf.Ty := (.pr (.rw 78 (.st qY21)) (.pr (.int .i64) qY28))
abbrev qY44 : Go.Lf.Ty := (.pr (.rw 78 (.st qY21)) (.pr (.int .i64) qY30))
abbrev qY45 : Go.Lf.Ty := (.pr .bool (.pr (.int .i64) qY41))
abbrev qY46 : Go.Lf.Ty := (.pr .bool (.pr (.int .i64) qY42))
abbrev qY47 : Go.Lf.Ty := (.pr (.sl (.st qY1)) (.pr .bool qY45))
abbrev qT48 : Type := (((Int) × qT4) × (((Int) × qT4) × qT40))
abbrev qY49 : Go.Lf.Ty := (.pr (.sl (.st qY1)) (.pr .bool qY46))
abbrev qY50 : Go.Lf.Ty := (.pr (.int .i64) (.pr qY26 qY43))
abbrev qY51 : Go.Lf.Ty := (.pr (.int .i64) (.pr qY26 qY44))
abbrev qY52 : Go.Lf.Ty := (.pr qY19 (.pr qY19 qY36))
abbrev qY53 : Go.Lf.Ty := (.pr qY20 (.pr qY20 qY37))
abbrev qT54 : Type := (((Int) × qT4) × (((Int) × qT4) × qT48))
abbrev qY55 : Go.Lf.Ty := (.pr (.sl (.sl (.st qY21))) qY47)
abbrev qT56 : Type := (((Int) × qT4) × (((Int) × qT4) × qT54))
abbrev qY57 : Go.Lf.Ty := (.pr (.sl (.st qY21)) qY55)
abbrev qY58 : Go.Lf.Ty := (.pr (.int .i64) (.pr qY7 (.pr (.sl qY19) (.pr (.sl (.int .i64)) (.pr (.sl (.st qY1)) (.pr (.int .i64) (.pr (.sl (.st qY21)) qY34)))))))
abbrev qY59 : Go.Lf.Ty := (.pr (.rw 78 (.st qY21)) (.pr qY26 qY49))
abbrev qY60 : Go.Lf.Ty := (.pr qY19 (.pr qY19 qY52))
abbrev qY61 : Go.Lf.Ty := (.pr qY20 (.pr qY20 qY53))
abbrev qY62 : Go.Lf.Ty := (.pr (.sl (.st qY1)) qY57)
abbrev qY63 : Go.Lf.Ty := (.pr (.mr 125 (.st qY1)) qY59)
abbrev qT64 : Type := (((Int) × qT4) × (((Int) × qT4) × qT56))
abbrev qT65 : Type := (((Int) × qT4) × (((Int) × qT4) × qT64))
abbrev qY66 : Go.Lf.Ty := (.pr qY19 (.pr qY19 qY60))
abbrev qY67 : Go.Lf.Ty := (.pr qY20 (.pr qY20 qY61))
abbrev qT68 : Type := (((Int) × qT4) × (((Int) × qT4) × qT65))
abbrev qY69 : Go.Lf.Ty := (.pr (.int .i64) (.pr (.sl qY23) (.pr (.sl (.st qY11)) (.pr (.int .i64) (.pr .bool (.pr (.sl (.sl (.st qY21))) (.pr .bool qY58)))))))
abbrev qY70 : Go.Lf.Ty := (.pr qY19 (.pr qY19 qY66))
abbrev qY71 : Go.Lf.Ty := (.pr qY20 (.pr qY20 qY67))
abbrev qT72 : Type := (((Int) × qT4) × (((Int) × qT4) × qT68))
abbrev qT73 : Type := (((Int) × qT4) × (((Int) × qT4) × qT72))
abbrev qY74 : Go.Lf.Ty := (.pr qY19 (.pr qY19 qY70))
abbrev qY75 : Go.Lf.Ty := (.pr qY20 (.pr qY20 qY71))
abbrev qT76 : Type := (((Int) × qT4) × (((Int) × qT4) × qT73))
abbrev qT77 : Type := (((Int) × qT4) × (((Int) × qT4) × qT76))
abbrev qY78 : Go.Lf.Ty := (.pr qY19 (.pr qY19 qY74))
abbrev qY79 : Go.Lf.Ty := (.pr qY20 (.pr qY20 qY75))
abbrev qT80 : Type := (((Int) × qT4) × (((Int) × qT4) × qT77))
abbrev qT81 : Type := (((Int) × qT4) × (((Int) × qT4) × qT80))
abbrev qY82 : Go.Lf.Ty := (.pr qY19 (.pr qY19 qY78))
abbrev qY83 : Go.Lf.Ty := (.pr qY20 (.pr qY20 qY79))
abbrev qT84 : Type := (((Int) × qT4) × (((Int) × qT4) × qT81))
abbrev qY85 : Go.Lf.Ty := (.pr qY19 (.pr qY19 qY82))
abbrev qY86 : Go.Lf.Ty := (.pr qY20 (.pr qY20 qY83))
abbrev qT87 : Type := (((Int) × qT4) × (((Int) × qT4) × qT84))
abbrev qY88 : Go.Lf.Ty := (.pr qY19 (.pr qY19 qY85))
abbrev qY89 : Go.Lf.Ty := (.pr qY20 (.pr qY20 qY86))
abbrev qY90 : Go.Lf.Ty := (.pr qY19 (.pr qY19 qY88))
abbrev qY91 : Go.Lf.Ty := (.pr qY20 (.pr qY20 qY89))
abbrev qY92 : Go.Lf.Ty := (.pr qY19 (.pr qY19 qY90))
abbrev qY93 : Go.Lf.Ty := (.pr qY20 (.pr qY20 qY91))
abbrev qY94 : Go.Lf.Ty := (.pr qY19 (.pr qY19 qY92))
abbrev qY95 : Go.Lf.Ty := (.pr qY20 (.pr qY20 qY93))
abbrev qY96 : Go.Lf.Ty := (.pr qY19 (.pr qY19 qY94))
abbrev qY97 : Go.Lf.Ty := (.pr qY20 (.pr qY20 qY95))
abbrev qY98 : Go.Lf.Ty := (.pr qY19 (.pr qY19 qY96))
abbrev qY99 : Go.Lf.Ty := (.pr qY20 (.pr qY20 qY97))
abbrev qY100 : Go.Lf.Ty := (.pr qY19 (.pr qY19 qY98))
abbrev qY101 : Go.Lf.Ty := (.pr qY20 (.pr qY20 qY99))
abbrev qY102 : Go.Lf.Ty := (.st (.pr (.st qY101) qY31))
abbrev qY103 : Go.Lf.Ty := (.pr (.st qY100) (.pr (.int .i64) qY62))
abbrev qY104 : Go.Lf.Ty := (.pr (.st qY100) (.pr (.int .i64) qY63))
abbrev qY105 : Go.Lf.Ty := (.pr (.int .i64) (.pr .bool qY103))
abbrev qY106 : Go.Lf.Ty := (.pr (.int .i64) (.pr .bool qY104))
abbrev qY107 : Go.Lf.Ty := (.pr (.int .i64) (.pr (.int .i64) qY105))
abbrev qY108 : Go.Lf.Ty := (.pr (.int .i64) (.pr (.int .i64) qY106))
abbrev qY109 : Go.Lf.Ty := (.pr (.sl qY23) (.pr .str qY107))
abbrev qY110 : Go.Lf.Ty := (.pr (.sl qY23) (.pr .str qY108))
abbrev qY111 : Go.Lf.Ty := (.pr (.int .i64) (.pr (.sl qY8) qY109))
abbrev qY112 : Go.Lf.Ty := (.pr (.int .i64) (.pr (.sl qY8) qY110))
def TysR : List (Nat × Go.Lf.TyI) := [(2, ⟨(.int .i64), 0, 0⟩),
 (3, ⟨(.int .i64), 0, 0⟩),
 (4, ⟨.bool, 0, 0⟩),
 (5, ⟨(.int .u8), 0, 0⟩),
 (6, ⟨(.int .u8), 0, 0⟩),
 (7, ⟨(.st (.pr (.int .i64) (.pr (.int .i64) (.pr .bool (.pr (.int .u8) .unit))))), 0, 0⟩),
 (8, ⟨(.st (.pr (.int .i64) (.pr (.int .i64) (.pr .bool (.pr (.int .u8) .unit))))), 0, 0⟩),
 (9, ⟨.str, 0, 0⟩),
 (10, ⟨.str, 0, 0⟩),
 (11, ⟨.str, 0, 0⟩),
 (12, ⟨(.int .u64), 0, 0⟩),
 (13, ⟨(.st (.pr .str (.pr (.int .u64) .unit))), 0, 0⟩),
 (14, ⟨(.st (.pr .str (.pr (.int .u64) .unit))), 0, 0⟩),
 (21, ⟨(.int .i32), 0, 0⟩),
 (22, ⟨qY25, 72, 56⟩),
 (23, ⟨(.sl (.int .u8)), 5, 1⟩),
 (24, ⟨(.sl (.sl (.st qY21))), 50, 24⟩),
 (25, ⟨(.sl (.st qY13)), 93, 32⟩),
 (26, ⟨(.sl (.st qY1)), 80, 16⟩),
 (27, ⟨(.st (.pr (.sl (.sl (.st qY21))) (.pr (.sl (.st qY13)) (.pr (.sl (.st qY1)) (.pr .bool .unit))))), 0, 0⟩),
 (28, ⟨(.st (.pr (.sl (.sl (.st qY21))) (.pr (.sl (.st qY13)) (.pr (.sl (.st qY1)) (.pr .bool .unit))))), 0, 0⟩),
 (29, ⟨(.int .i64), 0, 0⟩),
 (44, ⟨(.sl qY23), 64, 56⟩),
 (45, ⟨(.sl (.st qY11)), 108, 56⟩),
 (46, ⟨qY7, 0, 0⟩),
 (47, ⟨qY7, 0, 0⟩),
 (48, ⟨(.sl qY19), 76, 32⟩),
 (49, ⟨(.sl (.int .i64)), 3, 8⟩),
 (50, ⟨(.sl (.st qY21)), 78, 48⟩),
 (51, ⟨(.sl (.st qY1)), 201, 16⟩),
 (52, ⟨(.st (.pr qY25 qY69)), 0, 0⟩),
 (53, ⟨(.st (.pr qY25 qY69)), 0, 0⟩),
 (62, ⟨(.int .i64), 0, 0⟩),
 (63, ⟨qY23, 0, 0⟩),
 (64, ⟨qY23, 0, 0⟩),
 (69, ⟨qY8, 0, 0⟩),
 (70, ⟨qY8, 0, 0⟩),
 (71, ⟨(.st (.pr .str qY18)), 0, 0⟩),
 (72, ⟨(.st (.pr .str qY18)), 0, 0⟩),
 (73, ⟨(.st qY1), 0, 0⟩),
 (74, ⟨(.st qY1), 0, 0⟩),
 (75, ⟨qY19, 0, 0⟩),
 (76, ⟨qY19, 0, 0⟩),
 (77, ⟨(.st qY21), 0, 0⟩),
 (78, ⟨(.st qY21), 0, 0⟩),
 (79, ⟨(.st qY1), 0, 0⟩),
 (80, ⟨(.st qY1), 0, 0⟩),
 (82, ⟨(.sl qY8), 70, 24⟩),
 (83, ⟨(.st qY100), 76, 32⟩),
 (84, ⟨(.sl (.st qY1)), 125, 16⟩),
 (85, ⟨(.st qY111), 0, 0⟩),
 (86, ⟨(.st qY111), 0, 0⟩),
 (92, ⟨(.st qY13), 0, 0⟩),
 (93, ⟨(.st qY13), 0, 0⟩),
 (107, ⟨(.st qY11), 0, 0⟩),
 (108, ⟨(.st qY11), 0, 0⟩),
 (124, ⟨(.st qY1), 0, 0⟩),
 (125, ⟨(.st qY1), 0, 0⟩),
 (132, ⟨qY20, 0, 0⟩),
 (133, ⟨qY20, 0, 0⟩),
 (150, ⟨(.sl (.st (.pr .str qY1))), 153, 32⟩),
 (152, ⟨(.st (.pr .str qY1)), 0, 0⟩),
 (153, ⟨(.st (.pr .str qY1)), 0, 0⟩),
 (164, ⟨(.int .u64), 0, 0⟩),
 (167, ⟨(.int .u64), 0, 0⟩),
 (171, ⟨qY20, 0, 0⟩),
 (172, ⟨qY20, 0, 0⟩),
 (173, ⟨(.st qY101), 172, 32⟩),
 (174, ⟨qY102, 0, 0⟩),
 (175, ⟨qY102, 0, 0⟩),
 (180, ⟨(.sl .bool), 4, 1⟩),
 (182, ⟨(.st (.pr .bool (.pr (.sl .bool) (.pr (.sl (.st (.pr .bool qY13))) (.pr .bool .unit))))), 0, 0⟩),
 (191, ⟨(.sl (.st (.pr .str qY1))), 193, 32⟩),
 (193, ⟨(.st (.pr .str qY1)), 0, 0⟩),
 (200, ⟨(.st qY1), 0, 0⟩),
 (201, ⟨(.st qY1), 0, 0⟩),
 (216, ⟨(.st (.pr (.sl (.int .u8)) qY1)), 0, 0⟩),
 (229, ⟨(.st (.pr (.int .i64) (.pr (.sl (.sl (.st qY21))) (.pr (.sl (.st qY21)) (.pr (.int .i64) (.pr (.sl (.st qY21)) .unit)))))), 0, 0⟩),
 (233, ⟨(.sl (.sl (.sl (.st qY21)))), 24, 24⟩),
 (240, ⟨(.st (.pr .bool qY13)), 0, 0⟩),
 (245, ⟨(.st qY2), 21, 2⟩),
 (246, ⟨(.st (.pr (.st qY2) (.pr (.st qY2) (.pr (.st qY2) (.pr (.st qY2) (.pr (.st qY2) (.pr (.st qY2) (.pr (.st qY2) (.pr (.st qY2) (.pr (.st qY2) (.pr (.st qY2) (.pr (.st qY2) (.pr (.st qY2) (.pr (.st qY2) .unit)))))))))))))), 245, 13⟩),
 (38, ⟨(.ptr (.st qY111)), 0, 0⟩),
 (113, ⟨(.ptr qY19), 0, 0⟩),
 (165, ⟨(.ptr (.st (.pr (.sl (.int .u8)) qY1))), 0, 0⟩),
 (198, ⟨(.ptr (.st qY1)), 0, 0⟩),
 (220, ⟨(.ptr qY20), 0, 0⟩),
 (227, ⟨(.ptr (.st (.pr (.int .i64) (.pr (.sl (.sl (.st qY21))) (.pr (.sl (.st qY21)) (.pr (.int .i64) (.pr (.sl (.st qY21)) .unit))))))), 0, 0⟩)]
theorem TysR_ok : ∀ id i, Go.Lf.look TysR id = some i → Go.Lf.TyOk Go.Proofs.Tryz.prog id i := Go.Lf.tysB_ok (by kernel_rfl)
def TysREq : List (Nat × Go.Lf.Ty) := []
theorem TysREq_ok : ∀ id t, Go.Lf.look TysREq id = some t → Go.Lf.eqTop Go.Proofs.Tryz.prog id t = true := Go.Lf.eqsB_ok (by kernel_rfl)
def TysRIm : List (Nat × List (Nat × Bool)) := []
theorem TysRIm_ok : ∀ a l, Go.Lf.look TysRIm a = some l → Go.Lf.ImOk Go.Proofs.Tryz.prog a l := Go.Lf.imsB_ok (by kernel_rfl)
noncomputable def style_named_rRun : Go.Lf.RunS := ⟨⟨28, TysR, [], [], [], [], [], TysREq, [], some 4000, TysRIm, []⟩, (Go.Proofs.Tryz.f63.body).getD .skip, (.seq .no (.seq (.seq (.join (.one .nrm ⟨[0], [], [(11, .bool)], [], []⟩) .no) .no) (.seq (.seq .no (.loop ⟨[0, 13], [], [(14, (.int .i64))], [], []⟩ (.more (.ext 0) ⟨[], [], [], [], []⟩ (.one .ret ⟨[], [], [(2, .bool)], [], []⟩)) (.seq .no (.seq .no (.seq (.seq .no (.seq (.join (.one .nrm ⟨[0, 13, 14], [], [(26, .bool)], [], []⟩) .no) .no)) .no))))) .no))), [.val .str], [.bool], [.tmp 2]⟩
noncomputable def style_named_r := style_named_rRun.F
noncomputable def style_named_rEnt : Nat × Go.Lf.Entry := (63, ⟨[.val .str], [.bool], style_named_r⟩)
theorem style_named_r_ok : Go.Lf.EntryOk Go.Proofs.Tryz.prog GG 63 style_named_rEnt.2 := Go.Lf.run_ok style_named_rRun Go.Proofs.Tryz.f63 (by kernel_rfl) ⟨TysR_ok, Go.Lf.FnsOk.look .nil, Go.Lf.IpsOk.look .nil, TysREq_ok, TysRIm_ok, Go.Lf.IvsOk.look .nil, Go.Lf.FxsOk.look .nil⟩ (by kernel_rfl) (by kernel_rfl) (by kernel_rfl) (by kernel_rfl) (by kernel_rfl) (by kernel_rfl) (by kernel_rfl)
noncomputable def style_Find_rRun : Go.Lf.RunS := ⟨⟨21, TysR, [], [], [], [], [], TysREq, [], some 4000, TysRIm, []⟩, (Go.Proofs.Tryz.f64.body).getD .skip, (.seq .no (.seq (.seq .no (.loop ⟨[1, 0, 8], [], [(9, (.int .i64))], [], []⟩ (.more (.ext 0) ⟨[], [], [], [], []⟩ (.one .ret ⟨[], [], [(4, (.int .i64)), (5, .bool)], [], []⟩)) .no)) .no)), [.val qY25, .val .str], [(.int .i64), .bool], [.tmp 4, .tmp 5]⟩
noncomputable def style_Find_r := style_Find_rRun.F
noncomputable def style_Find_rEnt : Nat × Go.Lf.Entry := (64, ⟨[.val qY25, .val .str], [(.int .i64), .bool], style_Find_r⟩)
theorem style_Find_r_ok : Go.Lf.EntryOk Go.Proofs.Tryz.prog GG 64 style_Find_rEnt.2 := Go.Lf.run_ok style_Find_rRun Go.Proofs.Tryz.f64 (by kernel_rfl) ⟨TysR_ok, Go.Lf.FnsOk.look .nil, Go.Lf.IpsOk.look .nil, TysREq_ok, TysRIm_ok, Go.Lf.IvsOk.look .nil, Go.Lf.FxsOk.look .nil⟩ (by kernel_rfl) (by kernel_rfl) (by kernel_rfl) (by kernel_rfl) (by kernel_rfl) (by kernel_rfl) (by kernel_rfl)
noncomputable def style_change_rRun : Go.Lf.RunS := ⟨⟨41, TysR, [], [], [], [], [], TysREq, [], some 4000, TysRIm, []⟩, (Go.Proofs.Tryz.f65.body).getD .skip, (.seq .no (.seq (.seq (.join (.one .nrm ⟨[], [(1, .ref 1 [] 0)], [(3, .bool)], [(1, 70, qY8)], []⟩) .no) (.cnd .no (.seq (.join (.one .nrm ⟨[], [], [(32, .bool)], [], []⟩) .no) .no))) .no)), [.val qY8], [(.int .i64)], [.tmp 2]⟩
noncomputable def style_change_r := style_change_rRun.F
noncomputable def style_change_rEnt : Nat × Go.Lf.Entry := (65, ⟨[.val qY8], [(.int .i64)], style_change_r⟩)
theorem style_change_r_ok : Go.Lf.EntryOk Go.Proofs.Tryz.prog GG 65 style_change_rEnt.2 := Go.Lf.run_ok style_change_rRun Go.Proofs.Tryz.f65 (by kernel_rfl) ⟨TysR_ok, Go.Lf.FnsOk.look .nil, Go.Lf.IpsOk.look .nil, TysREq_ok, TysRIm_ok, Go.Lf.IvsOk.look .nil, Go.Lf.FxsOk.look .nil⟩ (by kernel_rfl) (by kernel_rfl) (by kernel_rfl) (by kernel_rfl) (by kernel_rfl) (by kernel_rfl) (by kernel_rfl)
noncomputable def style_ends_rRun : Go.Lf.RunS := ⟨⟨33, TysR, [style_Find_rEnt], [], [], [], [], TysREq, [], some 4000, TysRIm, []⟩, (Go.Proofs.Tryz.f66.body).getD .skip, (.seq .no (.seq .no (.seq .no (.seq (.seq .no (.loop ⟨[0], [], [(8, (.int .i64)), (1, (.int .i64)), (5, .bool)], [], []⟩ (.one (.ext 0) ⟨[], [], [(5, .bool)], [], []⟩) (.seq .no (.seq .no (.seq (.seq .no (.seq (.seq (.join (.one .nrm ⟨[0, 5, 8, 6], [], [(29, .bool)], [], []⟩) .no) .no) .no)) .no))))) .no)))), [.val qY25, .val (.int .i64)], [.bool], [.tmp 4]⟩
noncomputable def style_ends_r := style_ends_rRun.F
noncomputable def style_ends_rEnt : Nat × Go.Lf.Entry := (66, ⟨[.val qY25, .val (.int .i64)], [.bool], style_ends_r⟩)
theorem style_ends_r_ok : Go.Lf.EntryOk Go.Proofs.Tryz.prog GG 66 style_ends_rEnt.2 := Go.Lf.run_ok style_ends_rRun Go.Proofs.Tryz.f66 (by kernel_rfl) ⟨TysR_ok, Go.Lf.FnsOk.look (.con style_Find_r_ok .nil), Go.Lf.IpsOk.look .nil, TysREq_ok, TysRIm_ok, Go.Lf.IvsOk.look .nil, Go.Lf.FxsOk.look .nil⟩ (by kernel_rfl) (by kernel_rfl) (by kernel_rfl) (by kernel_rfl) (by kernel_rfl) (by kernel_rfl) (by kernel_rfl)
noncomputable def style_Check_rRun : Go.Lf.RunS := ⟨⟨73, TysR, [style_named_rEnt, style_Find_rEnt, style_change_rEnt, style_ends_rEnt], [], [], [], [], TysREq, [], some 4000, TysRIm, []⟩, (Go.Proofs.Tryz.f33.body).getD .skip, (.seq .no (.seq .no (.seq (.seq .no (.loop ⟨[0, 16, 17], [], [(18, (.int .i64))], [], []⟩ (.more (.ext 0) ⟨[0], [], [], [], []⟩ (.one .ret ⟨[], [], [(2, (.int .i64)), (3, (.int .i64))], [], []⟩)) (.seq .no (.seq .no (.seq (.seq .no (.seq .no (.seq (.seq (.draw 11) .no) .no))) .no))))) (.seq (.seq .no (.loop ⟨[0, 47, 48], [], [(49, (.int .i64))], [], []⟩ (.more (.ext 2) ⟨[], [], [], [], []⟩ (.one .ret ⟨[], [], [(2, (.int .i64)), (3, (.int .i64))], [], []⟩)) (.seq .no (.seq .no (.seq (.join (.more .nrm ⟨[0, 47, 48, 49], [], [], [], []⟩ (.one .ret ⟨[], [], [(2, (.int .i64)), (3, (.int .i64))], [], []⟩)) .no) .no))))) .no)))), [.val qY25], [(.int .i64), (.int .i64)], [.tmp 2, .tmp 3]⟩
noncomputable def style_Check_r := style_Check_rRun.F
noncomputable def style_Check_rEnt : Nat × Go.Lf.Entry := (33, ⟨[.val qY25], [(.int .i64), (.int .i64)], style_Check_r⟩)
theorem style_Check_r_ok : Go.Lf.EntryOk Go.Proofs.Tryz.prog GG 33 style_Check_rEnt.2 := Go.Lf.run_ok style_Check_rRun Go.Proofs.Tryz.f33 (by kernel_rfl) ⟨TysR_ok, Go.Lf.FnsOk.look (.con style_named_r_ok (.con style_Find_r_ok (.con style_change_r_ok (.con style_ends_r_ok .nil)))), Go.Lf.IpsOk.look .nil, TysREq_ok, TysRIm_ok, Go.Lf.IvsOk.look .nil, Go.Lf.FxsOk.look .nil⟩ (by kernel_rfl) (by kernel_rfl) (by kernel_rfl) (by kernel_rfl) (by kernel_rfl) (by kernel_rfl) (by kernel_rfl)
noncomputable def octet_New_rRun : Go.Lf.RunS := ⟨⟨16, TysR, [], [], [], [(6, (.mr 5 (.int .u8))), (7, (.st qY9))], [], TysREq, [], some 4000, TysRIm, []⟩, (Go.Proofs.Tryz.f100.body).getD .skip, .no, [.val (.sl (.int .u8))], [(.bx 216 (.st qY9))], [.tmp 2]⟩
noncomputable def octet_New_r := octet_New_rRun.F
noncomputable def octet_New_rEnt : Nat × Go.Lf.Entry := (100, ⟨[.val (.sl (.int .u8))], [(.bx 216 (.st qY9))], octet_New_r⟩)
theorem octet_New_r_ok : Go.Lf.EntryOk Go.Proofs.Tryz.prog GG 100 octet_New_rEnt.2 := Go.Lf.run_ok octet_New_rRun Go.Proofs.Tryz.f100 (by kernel_rfl) ⟨TysR_ok, Go.Lf.FnsOk.look .nil, Go.Lf.IpsOk.look .nil, TysREq_ok, TysRIm_ok, Go.Lf.IvsOk.look .nil, Go.Lf.FxsOk.look .nil⟩ (by kernel_rfl) (by kernel_rfl) (by kernel_rfl) (by kernel_rfl) (by kernel_rfl) (by kernel_rfl) (by kernel_rfl)
noncomputable def octet_Cursor__Err_rRun : Go.Lf.RunS := ⟨⟨9, TysR, [], [], [], [], [], TysREq, [], some 4000, TysRIm, []⟩, (Go.Proofs.Tryz.f102.body).getD .skip, .no, [.obj 216 (.st qY9) (.st qY9) []], [(.int .i64)], [.tmp 2]⟩
noncomputable def octet_Cursor__Err_r := octet_Cursor__Err_rRun.F
noncomputable def octet_Cursor__Err_rEnt : Nat × Go.Lf.Entry := (102, ⟨[.obj 216 (.st qY9) (.st qY9) []], [(.int .i64)], octet_Cursor__Err_r⟩)
theorem octet_Cursor__Err_r_ok : Go.Lf.EntryOk Go.Proofs.Tryz.prog GG 102 octet_Cursor__Err_rEnt.2 := Go.Lf.run_ok octet_Cursor__Err_rRun Go.Proofs.Tryz.f102 (by kernel_rfl) ⟨TysR_ok, Go.Lf.FnsOk.look .nil, Go.Lf.IpsOk.look .nil, TysREq_ok, TysRIm_ok, Go.Lf.IvsOk.look .nil, Go.Lf.FxsOk.look .nil⟩ (by kernel_rfl) (by kernel_rfl) (by kernel_rfl) (by kernel_rfl) (by kernel_rfl) (by kernel_rfl) (by kernel_rfl)
noncomputable def octet_Cursor__fine_rRun : Go.Lf.RunS := ⟨⟨6, TysR, [octet_Cursor__Err_rEnt], [], [], [], [], TysREq, [], some 4000, TysRIm, []⟩, (Go.Proofs.Tryz.f134.body).getD .skip, .no, [.obj 216 (.st qY9) (.st qY9) []], [.bool], [.tmp 2]⟩
noncomputable def octet_Cursor__fine_r := octet_Cursor__fine_rRun.F
noncomputable def octet_Cursor__fine_rEnt : Nat × Go.Lf.Entry := (134, ⟨[.obj 216 (.st qY9) (.st qY9) []], [.bool], octet_Cursor__fine_r⟩)
theorem octet_Cursor__fine_r_ok : Go.Lf.EntryOk Go.Proofs.Tryz.prog GG 134 octet_Cursor__fine_rEnt.2 := Go.Lf.run_ok octet_Cursor__fine_rRun Go.Proofs.Tryz.f134 (by kernel_rfl) ⟨TysR_ok, Go.Lf.FnsOk.look (.con octet_Cursor__Err_r_ok .nil), Go.Lf.IpsOk.look .nil, TysREq_ok, TysRIm_ok, Go.Lf.IvsOk.look .nil, Go.Lf.FxsOk.look .nil⟩ (by kernel_rfl) (by kernel_rfl) (by kernel_rfl) (by kernel_rfl) (by kernel_rfl) (by kernel_rfl) (by kernel_rfl)
noncomputable def octet_Cursor__Left_rRun : Go.Lf.RunS := ⟨⟨15, TysR, [], [], [], [], [], TysREq, [], some 4000, TysRIm, []⟩, (Go.Proofs.Tryz.f163.body).getD .skip, (.seq .no (.seq .no (.seq (.draw 11) .no))), [.obj 216 (.st qY9) (.st qY9) []], [(.int .i64)], [.tmp 2]⟩
noncomputable def octet_Cursor__Left_r := octet_Cursor__Left_rRun.F
noncomputable def octet_Cursor__Left_rEnt : Nat × Go.Lf.Entry := (163, ⟨[.obj 216 (.st qY9) (.st qY9) []], [(.int .i64)], octet_Cursor__Left_r⟩)
theorem octet_Cursor__Left_r_ok : Go.Lf.EntryOk Go.Proofs.Tryz.prog GG 163 octet_Cursor__Left_rEnt.2 := Go.Lf.run_ok octet_Cursor__Left_rRun Go.Proofs.Tryz.f163 (by kernel_rfl) ⟨TysR_ok, Go.Lf.FnsOk.look .nil, Go.Lf.IpsOk.look .nil, TysREq_ok, TysRIm_ok, Go.Lf.IvsOk.look .nil, Go.Lf.FxsOk.look .nil⟩ (by kernel_rfl) (by kernel_rfl) (by kernel_rfl) (by kernel_rfl) (by kernel_rfl) (by kernel_rfl) (by kernel_rfl)
noncomputable def octet_Cursor__number_rRun : Go.Lf.RunS := ⟨⟨59, TysR, [octet_Cursor__Left_rEnt], [], [], [], [], TysREq, [], some 4000, TysRIm, []⟩, (Go.Proofs.Tryz.f135.body).getD .skip, (.seq .no (.seq .no (.seq .no (.seq (.loop ⟨[], [(0, .ref 0 [] 0)], [(6, (.int .i64)), (5, (.int .u64))], [(0, 216, (.st qY9))], []⟩ (.more (.ext 0) ⟨[], [(0, .ref 0 [] 0)], [(6, (.int .i64)), (5, (.int .u64))], [(0, 216, (.st qY9))], []⟩ (.one .ret ⟨[], [(0, .ref 0 [] 0)], [(2, (.int .u64)), (3, (.int .i64)), (4, (.int .i64))], [(0, 216, (.st qY9))], []⟩)) (.seq .no (.seq (.seq (.draw 14) (.seq (.seq (.join (.one .nrm ⟨[6, 7, 5], [(0, .ref 0 [] 0)], [(36, .bool)], [(0, 216, (.st qY9))], []⟩) .no) .no) (.seq .no (.seq .no (.cnd (.seq (.seq (.join (.one .nrm ⟨[6, 5], [(0, .ref 0 [] 0)], [(51, .bool)], [(0, 216, (.st qY9))], []⟩) .no) .no) .no) .no))))) .no))) .no)))), [.obj 216 (.st qY9) (.st qY9) []], [(.int .u64), (.int .i64), (.int .i64)], [.tmp 2, .tmp 3, .tmp 4]⟩
noncomputable def octet_Cursor__number_r := octet_Cursor__number_rRun.F
noncomputable def octet_Cursor__number_rEnt : Nat × Go.Lf.Entry := (135, ⟨[.obj 216 (.st qY9) (.st qY9) []], [(.int .u64), (.int .i64), (.int .i64)], octet_Cursor__number_r⟩)
theorem octet_Cursor__number_r_ok : Go.Lf.EntryOk Go.Proofs.Tryz.prog GG 135 octet_Cursor__number_rEnt.2 := Go.Lf.run_ok octet_Cursor__number_rRun Go.Proofs.Tryz.f135 (by kernel_rfl) ⟨TysR_ok, Go.Lf.FnsOk.look (.con octet_Cursor__Left_r_ok .nil), Go.Lf.IpsOk.look .nil, TysREq_ok, TysRIm_ok, Go.Lf.IvsOk.look .nil, Go.Lf.FxsOk.look .nil⟩ (by kernel_rfl) (by kernel_rfl) (by kernel_rfl) (by kernel_rfl) (by kernel_rfl) (by kernel_rfl) (by kernel_rfl)
noncomputable def octet_Cursor__Fail_rRun : Go.Lf.RunS := ⟨⟨17, TysR, [], [], [], [], [], TysREq, [], some 4000, TysRIm, []⟩, (Go.Proofs.Tryz.f136.body).getD .skip, .no, [.obj 216 (.st qY9) (.st qY9) [], .val (.int .i64)], [], []⟩
noncomputable def octet_Cursor__Fail_r := octet_Cursor__Fail_rRun.F
noncomputable def octet_Cursor__Fail_rEnt : Nat × Go.Lf.Entry := (136, ⟨[.obj 216 (.st qY9) (.st qY9) [], .val (.int .i64)], [], octet_Cursor__Fail_r⟩)
theorem octet_Cursor__Fail_r_ok : Go.Lf.EntryOk Go.Proofs.Tryz.prog GG 136 octet_Cursor__Fail_rEnt.2 := Go.Lf.run_ok octet_Cursor__Fail_rRun Go.Proofs.Tryz.f136 (by kernel_rfl) ⟨TysR_ok, Go.Lf.FnsOk.look .nil, Go.Lf.IpsOk.look .nil, TysREq_ok, TysRIm_ok, Go.Lf.IvsOk.look .nil, Go.Lf.FxsOk.look .nil⟩ (by kernel_rfl) (by kernel_rfl) (by kernel_rfl) (by kernel_rfl) (by kernel_rfl) (by kernel_rfl) (by kernel_rfl)
noncomputable def octet_Cursor__Uint_rRun : Go.Lf.RunS := ⟨⟨31, TysR, [octet_Cursor__fine_rEnt, octet_Cursor__number_rEnt, octet_Cursor__Fail_rEnt], [11], [], [], [], TysREq, [], some 4000, TysRIm, []⟩, (Go.Proofs.Tryz.f101.body).getD .skip, .no, [.obj 216 (.st qY9) (.st qY9) []], [(.int .u64)], [.tmp 2]⟩
noncomputable def octet_Cursor__Uint_r := octet_Cursor__Uint_rRun.F
noncomputable def octet_Cursor__Uint_rEnt : Nat × Go.Lf.Entry := (101, ⟨[.obj 216 (.st qY9) (.st qY9) []], [(.int .u64)], octet_Cursor__Uint_r⟩)
theorem octet_Cursor__Uint_r_ok : Go.Lf.EntryOk Go.Proofs.Tryz.prog GG 101 octet_Cursor__Uint_rEnt.2 := Go.Lf.run_ok octet_Cursor__Uint_rRun Go.Proofs.Tryz.f101 (by kernel_rfl) ⟨TysR_ok, Go.Lf.FnsOk.look (.con octet_Cursor__fine_r_ok (.con octet_Cursor__number_r_ok (.con octet_Cursor__Fail_r_ok .nil))), Go.Lf.IpsOk.look .nil, TysREq_ok, TysRIm_ok, Go.Lf.IvsOk.look .nil, Go.Lf.FxsOk.look .nil⟩ (by kernel_rfl) (by kernel_rfl) (by kernel_rfl) (by kernel_rfl) (by kernel_rfl) (by kernel_rfl) (by kernel_rfl)
noncomputable def octet_Cursor__At_rRun : Go.Lf.RunS := ⟨⟨9, TysR, [], [], [], [], [], TysREq, [], some 4000, TysRIm, []⟩, (Go.Proofs.Tryz.f103.body).getD .skip, .no, [.val (.ptr (.st (.pr (.sl (.int .u8)) qY1)))], [(.int .i64)], [.tmp 2]⟩
noncomputable def octet_Cursor__At_r := octet_Cursor__At_rRun.F
noncomputable def octet_Cursor__At_rEnt : Nat × Go.Lf.Entry := (103, ⟨[.val (.ptr (.st (.pr (.sl (.int .u8)) qY1)))], [(.int .i64)], octet_Cursor__At_r⟩)
theorem octet_Cursor__At_r_ok : Go.Lf.EntryOk Go.Proofs.Tryz.prog GG 103 octet_Cursor__At_rEnt.2 := Go.Lf.run_ok octet_Cursor__At_rRun Go.Proofs.Tryz.f103 (by kernel_rfl) ⟨TysR_ok, Go.Lf.FnsOk.look .nil, Go.Lf.IpsOk.look .nil, TysREq_ok, TysRIm_ok, Go.Lf.IvsOk.look .nil, Go.Lf.FxsOk.look .nil⟩ (by kernel_rfl) (by kernel_rfl) (by kernel_rfl) (by kernel_rfl) (by kernel_rfl) (by kernel_rfl) (by kernel_rfl)
noncomputable def code_finish_rRun : Go.Lf.RunS := ⟨⟨81, TysR, [], [67], [], [(67, (.rw 3 (.int .i64)))], [], TysREq, [], some 4000, TysRIm, []⟩, (Go.Proofs.Tryz.f104.body).getD .skip, (.seq .no (.seq (.join (.more .ret ⟨[], [(6, .ref 6 [] 0)], [(7, (.int .i64))], [(6, 64, qY23)], []⟩ (.one .nrm ⟨[], [(6, .ref 6 [] 0), (4, .ref 4 [] 0)], [], [(6, 64, qY23), (4, 64, qY24)], []⟩)) (.seq .no (.seq .no (.cnd .no (.seq (.join (.one .nrm ⟨[2, 0, 12], [(6, .ref 6 [] 0), (4, .ref 4 [] 0)], [(24, .bool)], [(6, 64, qY23), (4, 64, qY24)], []⟩) .no) (.cnd .no (.seq .no (.cnd .no (.seq .no (.cnd (.seq .no (.seq .no (.seq .no (.seq (.seq .no (.loop ⟨[60, 2, 61], [(4, .ref 4 [] 0), (6, .ref 6 [] 0)], [(62, (.int .i64))], [(4, 64, qY24), (6, 64, qY23)], []⟩ (.one (.ext 1) ⟨[2], [(6, .ref 6 [] 0), (4, .ref 4 [] 0)], [], [(6, 64, qY23), (4, 64, qY24)], []⟩) .no)) .no)))) .no)))))))))) .no)), [.val (.sl (.int .u8)), .val qY24, .val (.int .i64)], [qY23, (.int .i64)], [.cell 6 64, .tmp 7]⟩
noncomputable def code_finish_r := code_finish_rRun.F
noncomputable def code_finish_rEnt : Nat × Go.Lf.Entry := (104, ⟨[.val (.sl (.int .u8)), .val qY24, .val (.int .i64)], [qY23, (.int .i64)], code_finish_r⟩)
theorem code_finish_r_ok : Go.Lf.EntryOk Go.Proofs.Tryz.prog GG 104 code_finish_rEnt.2 := Go.Lf.run_ok code_finish_rRun Go.Proofs.Tryz.f104 (by kernel_rfl) ⟨TysR_ok, Go.Lf.FnsOk.look .nil, Go.Lf.IpsOk.look .nil, TysREq_ok, TysRIm_ok, Go.Lf.IvsOk.look .nil, Go.Lf.FxsOk.look .nil⟩ (by kernel_rfl) (by kernel_rfl) (by kernel_rfl) (by kernel_rfl) (by kernel_rfl) (by kernel_rfl) (by kernel_rfl)
noncomputable def code_Next_rRun : Go.Lf.RunS := ⟨⟨72, TysR, [octet_New_rEnt, octet_Cursor__Uint_rEnt, octet_Cursor__Err_rEnt, octet_Cursor__At_rEnt, code_finish_rEnt], [67], [], [(8, qY24), (38, qY24)], [], TysREq, [], some 4000, TysRIm, []⟩, (Go.Proofs.Tryz.f55.body).getD .skip, (.seq .no (.seq (.seq (.join (.one .nrm ⟨[0, 1], [(4, .ref 4 [] 0)], [(19, .bool)], [(4, 64, qY23)], []⟩) .no) .no) (.seq (.draw 14) (.seq .no (.seq .no (.seq (.join (.more .ret ⟨[], [(4, .ref 4 [] 0)], [(5, (.int .i64))], [(4, 64, qY23)], []⟩ (.one .nrm ⟨[0], [(4, .ref 4 [] 0), (8, .ref 8 [] 0)], [(7, (.int .i64))], [(4, 64, qY23), (8, 64, qY24)], []⟩)) (.seq .no (.cnd (.seq .no (.seq .no (.seq .no (.seq .no (.seq .no (.draw 6)))))) .no))) .no)))))), [.val (.sl (.int .u8)), .val (.int .i64)], [qY23, (.int .i64)], [.cell 4 64, .tmp 5]⟩
noncomputable def code_Next_r := code_Next_rRun.F
noncomputable def code_Next_rEnt : Nat × Go.Lf.Entry := (55, ⟨[.val (.sl (.int .u8)), .val (.int .i64)], [qY23, (.int .i64)], code_Next_r⟩)
theorem code_Next_r_ok : Go.Lf.EntryOk Go.Proofs.Tryz.prog GG 55 code_Next_rEnt.2 := Go.Lf.run_ok code_Next_rRun Go.Proofs.Tryz.f55 (by kernel_rfl) ⟨TysR_ok, Go.Lf.FnsOk.look (.con octet_New_r_ok (.con octet_Cursor__Uint_r_ok (.con octet_Cursor__Err_r_ok (.con octet_Cursor__At_r_ok (.con code_finish_r_ok .nil))))), Go.Lf.IpsOk.look .nil, TysREq_ok, TysRIm_ok, Go.Lf.IvsOk.look .nil, Go.Lf.FxsOk.look .nil⟩ (by kernel_rfl) (by kernel_rfl) (by kernel_rfl) (by kernel_rfl) (by kernel_rfl) (by kernel_rfl) (by kernel_rfl)
noncomputable def code_Instrs_rRun : Go.Lf.RunS := ⟨⟨45, TysR, [code_Next_rEnt], [2, 5, 16, 26, 42], [], [(2, (.rw 64 qY23)), (5, (.rw 64 qY23)), (26, (.rw 64 qY23)), (42, (.rw 64 qY23))], [], TysREq, [], some 4000, TysRIm, []⟩, (Go.Proofs.Tryz.f21.body).getD .skip, (.seq .no (.seq .no (.seq .no (.seq (.seq .no (.loop ⟨[0], [], [(6, (.int .i64)), (5, (.rw 64 qY23))], [], []⟩ (.more (.ext 0) ⟨[0], [], [], [], []⟩ (.one .ret ⟨[], [], [(2, (.rw 64 qY23)), (3, (.int .i64)), (4, (.int .i64))], [], []⟩)) .no)) .no)))), [.val (.sl (.int .u8))], [(.rw 64 qY23), (.int .i64), (.int .i64)], [.tmp 2, .tmp 3, .tmp 4]⟩
noncomputable def code_Instrs_r := code_Instrs_rRun.F
noncomputable def code_Instrs_rEnt : Nat × Go.Lf.Entry := (21, ⟨[.val (.sl (.int .u8))], [(.rw 64 qY23), (.int .i64), (.int .i64)], code_Instrs_r⟩)
theorem code_Instrs_r_ok : Go.Lf.EntryOk Go.Proofs.Tryz.prog GG 21 code_Instrs_rEnt.2 := Go.Lf.run_ok code_Instrs_rRun Go.Proofs.Tryz.f21 (by kernel_rfl) ⟨TysR_ok, Go.Lf.FnsOk.look (.con code_Next_r_ok .nil), Go.Lf.IpsOk.look .nil, TysREq_ok, TysRIm_ok, Go.Lf.IvsOk.look .nil, Go.Lf.FxsOk.look .nil⟩ (by kernel_rfl) (by kernel_rfl) (by kernel_rfl) (by kernel_rfl) (by kernel_rfl) (by kernel_rfl) (by kernel_rfl)
noncomputable def check_walk__operand_rRun : Go.Lf.RunS := ⟨⟨50, TysR, [], [], [], [], [], TysREq, [], some 4000, TysRIm, []⟩, (Go.Proofs.Tryz.f105.body).getD .skip, (.seq .no (.seq (.seq .no (.seq (.join (.one .nrm ⟨[8], [(0, .ref 0 [] 0), (3, .ref 3 [] 0)], [(9, .bool)], [(0, 175, qY102), (3, 64, qY23)], []⟩) .no) (.cnd (.seq (.draw 8) .no) (.seq (.join (.one .nrm ⟨[8], [(0, .ref 0 [] 0), (3, .ref 3 [] 0)], [(19, .bool)], [(0, 175, qY102), (3, 64, qY23)], []⟩) .no) (.cnd (.seq (.draw 8) .no) (.seq .no (.cnd .no (.seq .no (.cnd (.seq (.seq .no (.loop ⟨[37, 38], [(0, .ref 0 [] 0), (3, .ref 3 [] 0)], [(39, (.int .i64))], [(0, 175, qY102), (3, 64, qY23)], []⟩ (.more (.ext 1) ⟨[], [(0, .ref 0 [] 0), (3, .ref 3 [] 0)], [], [(0, 175, qY102), (3, 64, qY23)], []⟩ (.one .ret ⟨[], [(0, .ref 0 [] 0)], [(4, .bool)], [(0, 175, qY102)], []⟩)) .no)) .no) .no))))))))) .no)), [.obj 175 qY102 qY102 [], .val qY23], [.bool], [.tmp 4]⟩
noncomputable def check_walk__operand_r := check_walk__operand_rRun.F
noncomputable def check_walk__operand_rEnt : Nat × Go.Lf.Entry := (105, ⟨[.obj 175 qY102 qY102 [], .val qY23], [.bool], check_walk__operand_r⟩)
theorem check_walk__operand_r_ok : Go.Lf.EntryOk Go.Proofs.Tryz.prog GG 105 check_walk__operand_rEnt.2 := Go.Lf.run_ok check_walk__operand_rRun Go.Proofs.Tryz.f105 (by kernel_rfl) ⟨TysR_ok, Go.Lf.FnsOk.look .nil, Go.Lf.IpsOk.look .nil, TysREq_ok, TysRIm_ok, Go.Lf.IvsOk.look .nil, Go.Lf.FxsOk.look .nil⟩ (by kernel_rfl) (by kernel_rfl) (by kernel_rfl) (by kernel_rfl) (by kernel_rfl) (by kernel_rfl) (by kernel_rfl)
noncomputable def check_walk__push_rRun : Go.Lf.RunS := ⟨⟨20, TysR, [], [], [], [], [], TysREq, [], some 4000, TysRIm, []⟩, (Go.Proofs.Tryz.f139.body).getD .skip, (.seq .no (.seq (.draw 9) .no)), [.obj 175 qY102 qY102 [], .val qY20], [], []⟩
noncomputable def check_walk__push_r := check_walk__push_rRun.F
noncomputable def check_walk__push_rEnt : Nat × Go.Lf.Entry := (139, ⟨[.obj 175 qY102 qY102 [], .val qY20], [], check_walk__push_r⟩)
theorem check_walk__push_r_ok : Go.Lf.EntryOk Go.Proofs.Tryz.prog GG 139 check_walk__push_rEnt.2 := Go.Lf.run_ok check_walk__push_rRun Go.Proofs.Tryz.f139 (by kernel_rfl) ⟨TysR_ok, Go.Lf.FnsOk.look .nil, Go.Lf.IpsOk.look .nil, TysREq_ok, TysRIm_ok, Go.Lf.IvsOk.look .nil, Go.Lf.FxsOk.look .nil⟩ (by kernel_rfl) (by kernel_rfl) (by kernel_rfl) (by kernel_rfl) (by kernel_rfl) (by kernel_rfl) (by kernel_rfl)
noncomputable def check_walk__top_rCtx : Go.Lf.Ctx := ⟨17, TysR, [], [], [], [], [], TysREq, [], some 4000, TysRIm, []⟩
noncomputable def check_walk__top_rCode : Go.Code := (Go.Proofs.Tryz.f138.body).getD .skip
def check_walk__top_rAnn : Go.Lf.Ann := (.seq .no (.seq .no (.seq (.draw 10) .no)))
noncomputable def check_walk__top_rP (a0 : qT87 × ((Int) × qT17)) : Option (Option Nat × (qT87 × ((Int) × qT17))) :=
 bif (decide ((a0.2.1 : Int) = (0 : Int))) then some ((none : Option (Nat)), a0)
 else ((Go.Lf.chk (((((((((((((((((((((((((((((((((0 : Nat) + (1 : Nat)) + (1 : Nat)) + (1 : Nat)) + (1 : Nat)) + (1 : Nat)) + (1 : Nat)) + (1 : Nat)) + (1 : Nat)) + (1 : Nat)) + (1 : Nat)) + (1 : Nat)) + (1 : Nat)) + (1 : Nat)) + (1 : Nat)) + (1 : Nat)) + (1 : Nat)) + (1 : Nat)) + (1 : Nat)) + (1 : Nat)) + (1 : Nat)) + (1 : Nat)) + (1 : Nat)) + (1 : Nat)) + (1 : Nat)) + (1 : Nat)) + (1 : Nat)) + (1 : Nat)) + (1 : Nat)) + (1 : Nat)) + (1 : Nat)) + (1 : Nat)) + (1 : Nat)) (Go.IntKind.wrap .i64 (a0.2.1 - (1 : Int))))).bind fun r1 =>
 some ((some r1), a0)
theorem check_walk__top_r_eq (a0 : qT87 × ((Int) × qT17)) : Go.Lf.ipE check_walk__top_rCtx check_walk__top_rCode check_walk__top_rAnn 175 qY102 [] [.i, .l] 0 5 2 a0 = check_walk__top_rP a0 := by kernel_rfl
noncomputable def check_walk__top_r (a0 : qT87 × ((Int) × qT17)) : Option (Option Nat) := (check_walk__top_rP a0).map (·.1)
theorem check_walk__top_r_same (a0 : qT87 × ((Int) × qT17)) : Go.Lf.Same a0 (check_walk__top_rP a0) := by
 unfold check_walk__top_rP
 repeat' (first | exact Go.Lf.Same.some | exact Go.Lf.Same.none | refine Go.Lf.Same.cond _ ?_ ?_ | refine Go.Lf.Same.bind _ (fun _ => ?_))
noncomputable def check_walk__top_rIp : Nat × Go.Lf.Ip := (138, ⟨175, qY102, [], [.i, .l], 0, 5, fun z => check_walk__top_r z⟩)
theorem check_walk__top_r_ok : Go.Lf.IpOk Go.Proofs.Tryz.prog GG 138 check_walk__top_rIp.2 :=
 Go.Lf.ip_ok (c := check_walk__top_rCtx) (code := check_walk__top_rCode) (an := check_walk__top_rAnn) (slot := 2) (fn := Go.Proofs.Tryz.f138) (by kernel_rfl) ⟨TysR_ok, Go.Lf.FnsOk.look .nil, Go.Lf.IpsOk.look .nil, TysREq_ok, TysRIm_ok, Go.Lf.IvsOk.look .nil, Go.Lf.FxsOk.look .nil⟩ (by kernel_rfl) (by kernel_rfl) (by kernel_rfl) (by kernel_rfl) (by kernel_rfl) (Nat.le_of_ble_eq_true rfl) (by kernel_rfl) fun z m h => (check_walk__top_r_eq z).trans (Go.Lf.Same.get (check_walk__top_r_same z) h)
noncomputable def check_walk__inner_rRun : Go.Lf.RunS := ⟨⟨124, TysR, [check_walk__push_rEnt], [], [], [], [check_walk__top_rIp], TysREq, [], some 4000, TysRIm, []⟩, (Go.Proofs.Tryz.f137.body).getD .skip, (.seq .no (.seq (.seq .no (.seq (.seq (.seq (.join (.more .nrm ⟨[], [(0, .ref 0 [] 0), (3, .ref 3 [] 0)], [], [(0, 175, qY102), (3, 64, qY23)], []⟩ (.more (.ext 5) ⟨[], [(0, .ref 0 [] 0)], [], [(0, 175, qY102)], []⟩ (.more (.ext 6) ⟨[], [(0, .ref 0 [] 0)], [], [(0, 175, qY102)], []⟩ (.more (.ext 0) ⟨[], [(0, .ref 0 [] 0)], [], [(0, 175, qY102)], []⟩ (.one .ret ⟨[], [(0, .ref 0 [] 0)], [(4, .bool)], [(0, 175, qY102)], []⟩))))) (.seq (.seq (.seq (.seq (.seq .no (.seq (.seq (.join (.one .nrm ⟨[7], [(0, .ref 0 [] 0), (3, .ref 3 [] 0)], [(10, .bool)], [(0, 175, qY102), (3, 64, qY23)], []⟩) .no) .no) (.seq (.seq (.join (.one .nrm ⟨[7], [(0, .ref 0 [] 0), (3, .ref 3 [] 0)], [(13, .bool)], [(0, 175, qY102), (3, 64, qY23)], []⟩) .no) .no) .no))) .no) .no) .no) .no)) (.seq (.seq .no (.seq .no (.seq .no (.seq (.join (.one .nrm ⟨[], [(0, .ref 0 [] 0)], [], [(0, 175, qY102)], []⟩) .no) .no)))) .no)) (.seq (.seq .no (.seq (.join (.one .nrm ⟨[], [(0, .ref 0 [] 0)], [], [(0, 175, qY102)], []⟩) .no) .no)) .no)) (.seq (.seq .no (.seq .no (.seq .no (.seq (.join (.one .nrm ⟨[], [(0, .ref 0 [] 0)], [], [(0, 175, qY102)], []⟩) (.seq .no (.seq (.join (.one .nrm ⟨[5], [(0, .ref 0 [] 0)], [(116, .bool)], [(0, 175, qY102)], [(5, 0)]⟩) .no) .no))) .no)))) .no))) .no)), [.obj 175 qY102 qY102 [], .val qY23], [.bool], [.tmp 4]⟩
noncomputable def check_walk__inner_r := check_walk__inner_rRun.F
noncomputable def check_walk__inner_rEnt : Nat × Go.Lf.Entry := (137, ⟨[.obj 175 qY102 qY102 [], .val qY23], [.bool], check_walk__inner_r⟩)
theorem check_walk__inner_r_ok : Go.Lf.EntryOk Go.Proofs.Tryz.prog GG 137 check_walk__inner_rEnt.2 := Go.Lf.run_ok check_walk__inner_rRun Go.Proofs.Tryz.f137 (by kernel_rfl) ⟨TysR_ok, Go.Lf.FnsOk.look (.con check_walk__push_r_ok .nil), Go.Lf.IpsOk.look (.con check_walk__top_r_ok .nil), TysREq_ok, TysRIm_ok, Go.Lf.IvsOk.look .nil, Go.Lf.FxsOk.look .nil⟩ (by kernel_rfl) (by kernel_rfl) (by kernel_rfl) (by kernel_rfl) (by kernel_rfl) (by kernel_rfl) (by kernel_rfl)
noncomputable def check_walk__place_rRun : Go.Lf.RunS := ⟨⟨178, TysR, [check_walk__inner_rEnt, check_walk__push_rEnt], [], [], [], [check_walk__top_rIp], TysREq, [], some 4000, TysRIm, []⟩, (Go.Proofs.Tryz.f106.body).getD .skip, (.seq .no (.seq .no (.seq .no (.seq (.join (.one .nrm ⟨[5], [(0, .ref 0 [] 0), (3, .ref 3 [] 0)], [(6, .bool)], [(0, 175, qY102), (3, 64, qY23)], [(5, 0)]⟩) .no) (.seq (.join (.one .nrm ⟨[5, 6], [(0, .ref 0 [] 0), (3, .ref 3 [] 0)], [(7, .bool)], [(0, 175, qY102), (3, 64, qY23)], [(5, 0)]⟩) (.draw 28)) (.seq (.join (.more .ret ⟨[], [(0, .ref 0 [] 0)], [(4, .bool)], [(0, 175, qY102)], []⟩ (.one .nrm ⟨[], [(0, .ref 0 [] 0)], [], [(0, 175, qY102)], []⟩)) (.seq .no (.seq .no (.cnd .no (.seq .no (.cnd (.seq (.seq (.join (.one .nrm ⟨[], [(0, .ref 0 [] 0), (3, .ref 3 [] 0)], [(78, .bool)], [(0, 175, qY102), (3, 64, qY23)], []⟩) .no) .no) .no) (.seq .no (.cnd (.seq (.seq (.join (.one .nrm ⟨[], [(0, .ref 0 [] 0), (3, .ref 3 [] 0)], [(101, .bool)], [(0, 175, qY102), (3, 64, qY23)], []⟩) .no) .no) .no) (.seq .no (.cnd (.seq (.seq (.join (.one .nrm ⟨[5], [(0, .ref 0 [] 0)], [(117, .bool)], [(0, 175, qY102)], [(5, 0)]⟩) .no) .no) .no) (.seq .no (.cnd .no (.seq (.join (.one .nrm ⟨[5, 7], [(0, .ref 0 [] 0), (3, .ref 3 [] 0)], [(137, .bool)], [(0, 175, qY102), (3, 64, qY23)], [(5, 0)]⟩) .no) (.cnd (.seq (.seq (.join (.one .nrm ⟨[5], [(0, .ref 0 [] 0), (3, .ref 3 [] 0)], [(156, .bool)], [(0, 175, qY102), (3, 64, qY23)], [(5, 0)]⟩) .no) .no) .no) .no)))))))))))))) .no)))))), [.obj 175 qY102 qY102 [], .val qY23], [.bool], [.tmp 4]⟩
noncomputable def check_walk__place_r := check_walk__place_rRun.F
noncomputable def check_walk__place_rEnt : Nat × Go.Lf.Entry := (106, ⟨[.obj 175 qY102 qY102 [], .val qY23], [.bool], check_walk__place_r⟩)
theorem check_walk__place_r_ok : Go.Lf.EntryOk Go.Proofs.Tryz.prog GG 106 check_walk__place_rEnt.2 := Go.Lf.run_ok check_walk__place_rRun Go.Proofs.Tryz.f106 (by kernel_rfl) ⟨TysR_ok, Go.Lf.FnsOk.look (.con check_walk__inner_r_ok (.con check_walk__push_r_ok .nil)), Go.Lf.IpsOk.look (.con check_walk__top_r_ok .nil), TysREq_ok, TysRIm_ok, Go.Lf.IvsOk.look .nil, Go.Lf.FxsOk.look .nil⟩ (by kernel_rfl) (by kernel_rfl) (by kernel_rfl) (by kernel_rfl) (by kernel_rfl) (by kernel_rfl) (by kernel_rfl)
noncomputable def text_control_rRun : Go.Lf.RunS := ⟨⟨13, TysR, [], [], [], [], [], TysREq, [], some 4000, TysRIm, []⟩, (Go.Proofs.Tryz.f164.body).getD .skip, (.seq .no (.seq (.join (.one .nrm ⟨[], [], [(2, .bool)], [], []⟩) .no) .no)), [.val (.int .i32)], [.bool], [.tmp 2]⟩
noncomputable def text_control_r := text_control_rRun.F
noncomputable def text_control_rEnt : Nat × Go.Lf.Entry := (164, ⟨[.val (.int .i32)], [.bool], text_control_r⟩)
theorem text_control_r_ok : Go.Lf.EntryOk Go.Proofs.Tryz.prog GG 164 text_control_rEnt.2 := Go.Lf.run_ok text_control_rRun Go.Proofs.Tryz.f164 (by kernel_rfl) ⟨TysR_ok, Go.Lf.FnsOk.look .nil, Go.Lf.IpsOk.look .nil, TysREq_ok, TysRIm_ok, Go.Lf.IvsOk.look .nil, Go.Lf.FxsOk.look .nil⟩ (by kernel_rfl) (by kernel_rfl) (by kernel_rfl) (by kernel_rfl) (by kernel_rfl) (by kernel_rfl) (by kernel_rfl)
noncomputable def text_bad_rRun : Go.Lf.RunS := ⟨⟨20, TysR, [utf8_DecodeEnt], [], [], [], [], TysREq, [], some 4000, TysRIm, []⟩, (Go.Proofs.Tryz.f165.body).getD .skip, (.seq .no (.seq .no (.seq (.join (.one .nrm ⟨[], [], [(4, .bool)], [], []⟩) .no) .no))), [.val .str, .val (.int .i64)], [.bool], [.tmp 4]⟩
noncomputable def text_bad_r := text_bad_rRun.F
noncomputable def text_bad_rEnt : Nat × Go.Lf.Entry := (165, ⟨[.val .str, .val (.int .i64)], [.bool], text_bad_r⟩)
theorem text_bad_r_ok : Go.Lf.EntryOk Go.Proofs.Tryz.prog GG 165 text_bad_rEnt.2 := Go.Lf.run_ok text_bad_rRun Go.Proofs.Tryz.f165 (by kernel_rfl) ⟨TysR_ok, Go.Lf.FnsOk.look (.con utf8_Decode_ok .nil), Go.Lf.IpsOk.look .nil, TysREq_ok, TysRIm_ok, Go.Lf.IvsOk.look .nil, Go.Lf.FxsOk.look .nil⟩ (by kernel_rfl) (by kernel_rfl) (by kernel_rfl) (by kernel_rfl) (by kernel_rfl) (by kernel_rfl) (by kernel_rfl)
noncomputable def text_Plain_rRun : Go.Lf.RunS := ⟨⟨24, TysR, [text_control_rEnt, text_bad_rEnt], [], [], [], [], TysREq, [], some 4000, TysRIm, []⟩, (Go.Proofs.Tryz.f140.body).getD .skip, (.seq .no (.seq (.seq .no (.loop ⟨[0], [], [(7, .it)], [], []⟩ (.more .ret ⟨[], [], [(2, (.int .i64)), (3, .bool)], [], []⟩ (.one (.ext 0) ⟨[], [], [], [], []⟩)) (.seq .no (.seq .no (.seq .no (.seq (.join (.one .nrm ⟨[4, 0], [], [(22, .bool), (7, .it)], [], []⟩) .no) .no)))))) .no)), [.val .str], [(.int .i64), .bool], [.tmp 2, .tmp 3]⟩
noncomputable def text_Plain_r := text_Plain_rRun.F
noncomputable def text_Plain_rEnt : Nat × Go.Lf.Entry := (140, ⟨[.val .str], [(.int .i64), .bool], text_Plain_r⟩)
theorem text_Plain_r_ok : Go.Lf.EntryOk Go.Proofs.Tryz.prog GG 140 text_Plain_rEnt.2 := Go.Lf.run_ok text_Plain_rRun Go.Proofs.Tryz.f140 (by kernel_rfl) ⟨TysR_ok, Go.Lf.FnsOk.look (.con text_control_r_ok (.con text_bad_r_ok .nil)), Go.Lf.IpsOk.look .nil, TysREq_ok, TysRIm_ok, Go.Lf.IvsOk.look .nil, Go.Lf.FxsOk.look .nil⟩ (by kernel_rfl) (by kernel_rfl) (by kernel_rfl) (by kernel_rfl) (by kernel_rfl) (by kernel_rfl) (by kernel_rfl)
noncomputable def check_walk__texts_rRun : Go.Lf.RunS := ⟨⟨48, TysR, [text_Plain_rEnt], [26], [], [], [], TysREq, [], some 4000, TysRIm, []⟩, (Go.Proofs.Tryz.f107.body).getD .skip, (.seq .no (.seq (.seq .no (.seq .no (.cnd .no (.seq .no (.cnd (.seq (.seq (.draw 8) .no) (.seq (.draw 13) (.seq (.draw 10) .no))) .no))))) .no)), [.obj 175 qY102 qY102 [], .val qY23], [.bool], [.tmp 4]⟩
noncomputable def check_walk__texts_r := check_walk__texts_rRun.F
noncomputable def check_walk__texts_rEnt : Nat × Go.Lf.Entry := (107, ⟨[.obj 175 qY102 qY102 [], .val qY23], [.bool], check_walk__texts_r⟩)
theorem check_walk__texts_r_ok : Go.Lf.EntryOk Go.Proofs.Tryz.prog GG 107 check_walk__texts_rEnt.2 := Go.Lf.run_ok check_walk__texts_rRun Go.Proofs.Tryz.f107 (by kernel_rfl) ⟨TysR_ok, Go.Lf.FnsOk.look (.con text_Plain_r_ok .nil), Go.Lf.IpsOk.look .nil, TysREq_ok, TysRIm_ok, Go.Lf.IvsOk.look .nil, Go.Lf.FxsOk.look .nil⟩ (by kernel_rfl) (by kernel_rfl) (by kernel_rfl) (by kernel_rfl) (by kernel_rfl) (by kernel_rfl) (by kernel_rfl)
noncomputable def check_run_rRun : Go.Lf.RunS := ⟨⟨109, TysR, [code_Instrs_rEnt, check_walk__operand_rEnt, check_walk__place_rEnt, check_walk__texts_rEnt], [9, 19, 49], [], [(9, (.rw 3 (.int .i64))), (49, (.rw 3 (.int .i64))), (6000061, .bool), (6000069, .bool), (6000077, .bool)], [], TysREq, [], some 4000, TysRIm, []⟩, (Go.Proofs.Tryz.f67.body).getD .skip, (.seq .no (.seq .no (.seq .no (.seq .no (.seq .no (.seq .no (.seq .no (.seq (.seq .no (.loop ⟨[43, 44], [(8, .ref 8 [] 0), (13, .ref 36 [] 0)], [(45, (.int .i64)), (9, (.rw 3 (.int .i64))), (10, (.int .i64)), (11, (.int .i64))], [(8, 133, qY20), (36, 175, qY102)], []⟩ (.one (.ext 0) ⟨[], [(8, .ref 8 [] 0)], [(9, (.rw 3 (.int .i64))), (10, (.int .i64)), (11, (.int .i64))], [(8, 133, qY20)], []⟩) (.seq .no (.seq .no (.seq (.seq .no (.seq .no (.seq (.seq .no (.cnd (.seq (.opn 999999 .no) .no) (.seq .no (.cnd (.seq (.opn 999999 .no) .no) (.seq .no (.cnd (.seq (.opn 999999 .no) .no) .no)))))) (.seq (.draw 8) (.seq (.join (.one .nrm ⟨[43, 10, 11, 44, 45], [(8, .ref 8 [] 0), (13, .ref 36 [] 0), (15, .ref 15 [] 0)], [(9, (.rw 3 (.int .i64)))], [(8, 133, qY20), (36, 175, qY102), (15, 64, qY23)], []⟩) (.seq .no (.seq (.join (.one .nrm ⟨[43, 10, 11, 44, 45, 89], [(8, .ref 8 [] 0), (13, .ref 36 [] 0), (15, .ref 15 [] 0)], [(90, .bool), (9, (.rw 3 (.int .i64)))], [(8, 133, qY20), (36, 175, qY102), (15, 64, qY23)], []⟩) .no) .no))) .no))))) .no))))) .no)))))))), [.val (.sl (.int .u8)), .val .str, .val (.int .i64), .val (.int .i64)], [qY20, (.rw 3 (.int .i64)), (.int .i64), (.int .i64)], [.cell 8 133, .tmp 9, .tmp 10, .tmp 11]⟩
noncomputable def check_run_r := check_run_rRun.F
noncomputable def check_run_rEnt : Nat × Go.Lf.Entry := (67, ⟨[.val (.sl (.int .u8)), .val .str, .val (.int .i64), .val (.int .i64)], [qY20, (.rw 3 (.int .i64)), (.int .i64), (.int .i64)], check_run_r⟩)
theorem check_run_r_ok : Go.Lf.EntryOk Go.Proofs.Tryz.prog GG 67 check_run_rEnt.2 := Go.Lf.run_ok check_run_rRun Go.Proofs.Tryz.f67 (by kernel_rfl) ⟨TysR_ok, Go.Lf.FnsOk.look (.con code_Instrs_r_ok (.con check_walk__operand_r_ok (.con check_walk__place_r_ok (.con check_walk__texts_r_ok .nil)))), Go.Lf.IpsOk.look .nil, TysREq_ok, TysRIm_ok, Go.Lf.IvsOk.look .nil, Go.Lf.FxsOk.look .nil⟩ (by kernel_rfl) (by kernel_rfl) (by kernel_rfl) (by kernel_rfl) (by kernel_rfl) (by kernel_rfl) (by kernel_rfl)
noncomputable def check_Check_rRun : Go.Lf.RunS := ⟨⟨26, TysR, [check_run_rEnt], [14], [], [], [], TysREq, [], some 4000, TysRIm, []⟩, (Go.Proofs.Tryz.f34.body).getD .skip, .no, [.val (.sl (.int .u8)), .val .str, .val (.int .i64), .val (.int .i64)], [(.int .i64), (.int .i64)], [.tmp 8, .tmp 9]⟩
noncomputable def check_Check_r := check_Check_rRun.F
noncomputable def check_Check_rEnt : Nat × Go.Lf.Entry := (34, ⟨[.val (.sl (.int .u8)), .val .str, .val (.int .i64), .val (.int .i64)], [(.int .i64), (.int .i64)], check_Check_r⟩)
theorem check_Check_r_ok : Go.Lf.EntryOk Go.Proofs.Tryz.prog GG 34 check_Check_rEnt.2 := Go.Lf.run_ok check_Check_rRun Go.Proofs.Tryz.f34 (by kernel_rfl) ⟨TysR_ok, Go.Lf.FnsOk.look (.con check_run_r_ok .nil), Go.Lf.IpsOk.look .nil, TysREq_ok, TysRIm_ok, Go.Lf.IvsOk.look .nil, Go.Lf.FxsOk.look .nil⟩ (by kernel_rfl) (by kernel_rfl) (by kernel_rfl) (by kernel_rfl) (by kernel_rfl) (by kernel_rfl) (by kernel_rfl)
noncomputable def style_plain_rRun : Go.Lf.RunS := ⟨⟨2, TysR, [], [], [], [], [], TysREq, [], some 4000, TysRIm, []⟩, (Go.Proofs.Tryz.f108.body).getD .skip, .no, [], [qY8], [.cell 0 70]⟩
noncomputable def style_plain_r := style_plain_rRun.F
noncomputable def style_plain_rEnt : Nat × Go.Lf.Entry := (108, ⟨[], [qY8], style_plain_r⟩)
theorem style_plain_r_ok : Go.Lf.EntryOk Go.Proofs.Tryz.prog GG 108 style_plain_rEnt.2 := Go.Lf.run_ok style_plain_rRun Go.Proofs.Tryz.f108 (by kernel_rfl) ⟨TysR_ok, Go.Lf.FnsOk.look .nil, Go.Lf.IpsOk.look .nil, TysREq_ok, TysRIm_ok, Go.Lf.IvsOk.look .nil, Go.Lf.FxsOk.look .nil⟩ (by kernel_rfl) (by kernel_rfl) (by kernel_rfl) (by kernel_rfl) (by kernel_rfl) (by kernel_rfl) (by kernel_rfl)
noncomputable def style_Then_rRun : Go.Lf.RunS := ⟨⟨32, TysR, [], [], [], [], [], TysREq, [], some 4000, TysRIm, []⟩, (Go.Proofs.Tryz.f109.body).getD .skip, (.seq .no (.seq .no (.seq (.join (.one .nrm ⟨[], [(4, .ref 4 [] 0), (5, .ref 5 [] 0)], [], [(4, 70, qY8), (5, 70, qY8)], []⟩) .no) .no))), [.val qY8, .val qY8], [qY8], [.cell 4 70]⟩
noncomputable def style_Then_r := style_Then_rRun.F
noncomputable def style_Then_rEnt : Nat × Go.Lf.Entry := (109, ⟨[.val qY8, .val qY8], [qY8], style_Then_r⟩)
theorem style_Then_r_ok : Go.Lf.EntryOk Go.Proofs.Tryz.prog GG 109 style_Then_rEnt.2 := Go.Lf.run_ok style_Then_rRun Go.Proofs.Tryz.f109 (by kernel_rfl) ⟨TysR_ok, Go.Lf.FnsOk.look .nil, Go.Lf.IpsOk.look .nil, TysREq_ok, TysRIm_ok, Go.Lf.IvsOk.look .nil, Go.Lf.FxsOk.look .nil⟩ (by kernel_rfl) (by kernel_rfl) (by kernel_rfl) (by kernel_rfl) (by kernel_rfl) (by kernel_rfl) (by kernel_rfl)
noncomputable def style_whole_rRun (self : prodT (([.val qY25, .val (.int .i64)] : List Go.Lf.Par).map Go.Lf.Par.ty) → Option (prodT (([qY8] : List Go.Lf.Ty) ++ Go.Lf.outs [.val qY25, .val (.int .i64)]))) : Go.Lf.RunS := ⟨⟨38, TysR, [style_Find_rEnt, (68, ⟨[.val qY25, .val (.int .i64)], [qY8], self⟩), style_plain_rEnt, style_Then_rEnt], [], [], [], [], TysREq, [], some 4000, TysRIm, []⟩, (Go.Proofs.Tryz.f68.body).getD .skip, (.seq .no (.seq .no (.seq (.join (.one .nrm ⟨[1, 0], [(4, .ref 4 [] 0), (5, .ref 5 [] 0)], [], [(4, 70, qY8), (5, 70, qY8)], []⟩) (.seq .no (.seq (.join (.one .nrm ⟨[1, 0, 6], [(4, .ref 4 [] 0), (5, .ref 5 [] 0)], [(27, .bool)], [(4, 70, qY8), (5, 70, qY8)], []⟩) .no) .no))) (.seq (.draw 7) .no)))), [.val qY25, .val (.int .i64)], [qY8], [.cell 4 70]⟩
noncomputable def style_whole_r := Go.Lf.recN (fun self => (style_whole_rRun self).F) 100
noncomputable def style_whole_rEnt : Nat × Go.Lf.Entry := (68, ⟨[.val qY25, .val (.int .i64)], [qY8], style_whole_r⟩)
theorem style_whole_r_ok : Go.Lf.EntryOk Go.Proofs.Tryz.prog GG 68 style_whole_rEnt.2 := Go.Lf.recN_ok (ps := [.val qY25, .val (.int .i64)]) (rs := [qY8]) Go.Proofs.Tryz.f68 (by kernel_rfl) (by kernel_rfl) (by kernel_rfl) (by kernel_rfl) (fun self ih => Go.Lf.run_ok (style_whole_rRun self) Go.Proofs.Tryz.f68 (by kernel_rfl) ⟨TysR_ok, Go.Lf.FnsOk.look (.con style_Find_r_ok (.cons ih (.con style_plain_r_ok (.con style_Then_r_ok .nil)))), Go.Lf.IpsOk.look .nil, TysREq_ok, TysRIm_ok, Go.Lf.IvsOk.look .nil, Go.Lf.FxsOk.look .nil⟩ (by kernel_rfl) (by kernel_rfl) (by kernel_rfl) (by kernel_rfl) (by kernel_rfl) (by kernel_rfl) (by kernel_rfl)) 100
noncomputable def style_Whole_rRun : Go.Lf.RunS := ⟨⟨31, TysR, [style_Check_rEnt, style_Find_rEnt, style_whole_rEnt], [10], [], [], [], TysREq, [], some 4000, TysRIm, []⟩, (Go.Proofs.Tryz.f35.body).getD .skip, .no, [.val qY25, .val .str], [qY8, (.int .i64)], [.cell 4 70, .tmp 5]⟩
noncomputable def style_Whole_r := style_Whole_rRun.F
noncomputable def style_Whole_rEnt : Nat × Go.Lf.Entry := (35, ⟨[.val qY25, .val .str], [qY8, (.int .i64)], style_Whole_r⟩)
theorem style_Whole_r_ok : Go.Lf.EntryOk Go.Proofs.Tryz.prog GG 35 style_Whole_rEnt.2 := Go.Lf.run_ok style_Whole_rRun Go.Proofs.Tryz.f35 (by kernel_rfl) ⟨TysR_ok, Go.Lf.FnsOk.look (.con style_Check_r_ok (.con style_Find_r_ok (.con style_whole_r_ok .nil))), Go.Lf.IpsOk.look .nil, TysREq_ok, TysRIm_ok, Go.Lf.IvsOk.look .nil, Go.Lf.FxsOk.look .nil⟩ (by kernel_rfl) (by kernel_rfl) (by kernel_rfl) (by kernel_rfl) (by kernel_rfl) (by kernel_rfl) (by kernel_rfl)
noncomputable def vm_New_rRun : Go.Lf.RunS := ⟨⟨87, TysR, [code_Instrs_rEnt, style_Check_rEnt, check_Check_rEnt, style_Whole_rEnt], [27, 37, 70], [], [(51, (.st (.pr (.int .i64) (.pr (.rw 70 qY8) qY110)))), (70, (.rw 70 qY8))], [], TysREq, [], some 4000, TysRIm, []⟩, (Go.Proofs.Tryz.f14.body).getD .skip, (.seq .no (.seq (.seq (.join (.one .nrm ⟨[0, 1, 4, 2, 3], [], [(26, .bool)], [], []⟩) .no) .no) (.seq .no (.seq .no (.seq .no (.seq .no (.seq (.seq .no (.loop ⟨[0, 53, 1, 54], [(16, .ref 52 [] 0)], [(55, (.int .i64))], [(52, 86, (.st (.pr (.int .i64) (.pr (.rw 70 qY8) qY110))))], []⟩ (.one (.ext 0) ⟨[1], [(16, .ref 52 [] 0)], [], [(52, 86, (.st (.pr (.int .i64) (.pr (.rw 70 qY8) qY110))))], []⟩) (.seq .no (.seq .no (.seq (.seq .no (.seq .no (.soup 7))) .no))))) .no))))))), [.val qY25, .val (.sl (.int .u8)), .val .str, .val (.int .i64), .val (.int .i64)], [(.bo 86 (.st qY112)), (.int .i64)], [.tmp 10, .tmp 11]⟩
noncomputable def vm_New_r := vm_New_rRun.F
noncomputable def vm_New_rEnt : Nat × Go.Lf.Entry := (14, ⟨[.val qY25, .val (.sl (.int .u8)), .val .str, .val (.int .i64), .val (.int .i64)], [(.bo 86 (.st qY112)), (.int .i64)], vm_New_r⟩)
theorem vm_New_r_ok : Go.Lf.EntryOk Go.Proofs.Tryz.prog GG 14 vm_New_rEnt.2 := Go.Lf.run_ok vm_New_rRun Go.Proofs.Tryz.f14 (by kernel_rfl) ⟨TysR_ok, Go.Lf.FnsOk.look (.con code_Instrs_r_ok (.con style_Check_r_ok (.con check_Check_r_ok (.con style_Whole_r_ok .nil)))), Go.Lf.IpsOk.look .nil, TysREq_ok, TysRIm_ok, Go.Lf.IvsOk.look .nil, Go.Lf.FxsOk.look .nil⟩ (by kernel_rfl) (by kernel_rfl) (by kernel_rfl) (by kernel_rfl) (by kernel_rfl) (by kernel_rfl) (by kernel_rfl)
noncomputable def vm_Machine__is_rRun : Go.Lf.RunS := ⟨⟨12, TysR, [], [], [], [], [], TysREq, [], some 4000, TysRIm, []⟩, (Go.Proofs.Tryz.f40.body).getD .skip, .no, [.val (.ptr (.st qY111))], [.bool], [.tmp 2]⟩
noncomputable def vm_Machine__is_r := vm_Machine__is_rRun.F
noncomputable def vm_Machine__is_rEnt : Nat × Go.Lf.Entry := (40, ⟨[.val (.ptr (.st qY111))], [.bool], vm_Machine__is_r⟩)
theorem vm_Machine__is_r_ok : Go.Lf.EntryOk Go.Proofs.Tryz.prog GG 40 vm_Machine__is_rEnt.2 := Go.Lf.run_ok vm_Machine__is_rRun Go.Proofs.Tryz.f40 (by kernel_rfl) ⟨TysR_ok, Go.Lf.FnsOk.look .nil, Go.Lf.IpsOk.look .nil, TysREq_ok, TysRIm_ok, Go.Lf.IvsOk.look .nil, Go.Lf.FxsOk.look .nil⟩ (by kernel_rfl) (by kernel_rfl) (by kernel_rfl) (by kernel_rfl) (by kernel_rfl) (by kernel_rfl) (by kernel_rfl)
noncomputable def text_Width_rRun : Go.Lf.RunS := ⟨⟨70, TysR, [], [], [], [], [], TysREq, [], some 4000, TysRIm, []⟩, (Go.Proofs.Tryz.f145.body).getD .skip, .seq .no (.seq .no (.seq .no (.seq (.seq .no (.loop ⟨[0, 55], [], [(56, .int .i64)], [], []⟩ (.more .ret ⟨[], [], [(2, .int .i64)], [], []⟩ (.one (.ext 6) ⟨[], [], [], [], []⟩)) .no)) .no))), [.val (.int .i32)], [(.int .i64)], [.tmp 2]⟩
noncomputable def text_Width_r := text_Width_rRun.F
noncomputable def text_Width_rEnt : Nat × Go.Lf.Entry := (145, ⟨[.val (.int .i32)], [(.int .i64)], text_Width_r⟩)
theorem text_Width_r_ok : Go.Lf.EntryOk Go.Proofs.Tryz.prog GG 145 text_Width_rEnt.2 := Go.Lf.run_ok text_Width_rRun Go.Proofs.Tryz.f145 (by kernel_rfl) ⟨TysR_ok, Go.Lf.FnsOk.look .nil, Go.Lf.IpsOk.look .nil, TysREq_ok, TysRIm_ok, Go.Lf.IvsOk.look .nil, Go.Lf.FxsOk.look .nil⟩ (by kernel_rfl) (by kernel_rfl) (by kernel_rfl) (by kernel_rfl) (by kernel_rfl) (by kernel_rfl) (by kernel_rfl)
noncomputable def text_Cells_rRun : Go.Lf.RunS := ⟨⟨61, TysR, [utf8_DecodeEnt, text_Width_rEnt], [], [], [(3, (.mr 193 (.st (.pr .str qY1))))], [], TysREq, [], some 4000, TysRIm, []⟩, (Go.Proofs.Tryz.f116.body).getD .skip, (.seq .no (.seq .no (.seq (.seq .no (.loop ⟨[0], [], [(4, (.int .i64)), (3, (.mr 193 (.st (.pr .str qY1))))], [], []⟩ (.one (.ext 0) ⟨[], [], [(3, (.mr 193 (.st (.pr .str qY1))))], [], []⟩) (.seq .no (.seq .no (.seq .no (.seq (.join (.one .nrm ⟨[0, 6, 4], [], [(3, (.mr 193 (.st (.pr .str qY1))))], [], []⟩) (.seq (.join (.one .nrm ⟨[0, 6, 4, 7], [], [(27, .bool), (3, (.mr 193 (.st (.pr .str qY1))))], [], []⟩) .no) (.cnd (.draw 16) .no))) .no)))))) .no))), [.val .str], [(.sl (.st (.pr .str qY1)))], [.tmp 2]⟩
noncomputable def text_Cells_r := text_Cells_rRun.F
noncomputable def text_Cells_rEnt : Nat × Go.Lf.Entry := (116, ⟨[.val .str], [(.sl (.st (.pr .str qY1)))], text_Cells_r⟩)
theorem text_Cells_r_ok : Go.Lf.EntryOk Go.Proofs.Tryz.prog GG 116 text_Cells_rEnt.2 := Go.Lf.run_ok text_Cells_rRun Go.Proofs.Tryz.f116 (by kernel_rfl) ⟨TysR_ok, Go.Lf.FnsOk.look (.con utf8_Decode_ok (.con text_Width_r_ok .nil)), Go.Lf.IpsOk.look .nil, TysREq_ok, TysRIm_ok, Go.Lf.IvsOk.look .nil, Go.Lf.FxsOk.look .nil⟩ (by kernel_rfl) (by kernel_rfl) (by kernel_rfl) (by kernel_rfl) (by kernel_rfl) (by kernel_rfl) (by kernel_rfl)
noncomputable def vm_plain_rRun : Go.Lf.RunS := ⟨⟨2, TysR, [], [], [], [], [], TysREq, [], some 4000, TysRIm, []⟩, (Go.Proofs.Tryz.f117.body).getD .skip, .no, [], [(.st qY1)], [.cell 0 74]⟩
noncomputable def vm_plain_r := vm_plain_rRun.F
noncomputable def vm_plain_rEnt : Nat × Go.Lf.Entry := (117, ⟨[], [(.st qY1)], vm_plain_r⟩)
theorem vm_plain_r_ok : Go.Lf.EntryOk Go.Proofs.Tryz.prog GG 117 vm_plain_rEnt.2 := Go.Lf.run_ok vm_plain_rRun Go.Proofs.Tryz.f117 (by kernel_rfl) ⟨TysR_ok, Go.Lf.FnsOk.look .nil, Go.Lf.IpsOk.look .nil, TysREq_ok, TysRIm_ok, Go.Lf.IvsOk.look .nil, Go.Lf.FxsOk.look .nil⟩ (by kernel_rfl) (by kernel_rfl) (by kernel_rfl) (by kernel_rfl) (by kernel_rfl) (by kernel_rfl) (by kernel_rfl)
noncomputable def vm_Machine__top_rRun : Go.Lf.RunS := ⟨⟨33, TysR, [vm_plain_rEnt], [], [], [], [], TysREq, [], some 4000, TysRIm, []⟩, (Go.Proofs.Tryz.f76.body).getD .skip, (.seq .no (.seq (.seq .no (.loop ⟨[0], [(2, .ref 2 [] 0)], [(3, (.int .i64))], [(2, 74, (.st qY1))], []⟩ (.more (.ext 0) ⟨[], [(2, .ref 2 [] 0)], [], [(2, 74, (.st qY1))], []⟩ (.one .ret ⟨[], [(2, .ref 2 [] 0)], [], [(2, 74, (.st qY1))], []⟩)) (.seq .no (.seq (.seq .no (.seq (.join (.one .nrm ⟨[3, 0], [(2, .ref 2 [] 0)], [(20, .bool)], [(2, 74, (.st qY1))], []⟩) .no) .no)) .no)))) .no)), [.val (.ptr (.st qY111))], [(.st qY1)], [.cell 2 74]⟩
noncomputable def vm_Machine__top_r := vm_Machine__top_rRun.F
noncomputable def vm_Machine__top_rEnt : Nat × Go.Lf.Entry := (76, ⟨[.val (.ptr (.st qY111))], [(.st qY1)], vm_Machine__top_r⟩)
theorem vm_Machine__top_r_ok : Go.Lf.EntryOk Go.Proofs.Tryz.prog GG 76 vm_Machine__top_rEnt.2 := Go.Lf.run_ok vm_Machine__top_rRun Go.Proofs.Tryz.f76 (by kernel_rfl) ⟨TysR_ok, Go.Lf.FnsOk.look (.con vm_plain_r_ok .nil), Go.Lf.IpsOk.look .nil, TysREq_ok, TysRIm_ok, Go.Lf.IvsOk.look .nil, Go.Lf.FxsOk.look .nil⟩ (by kernel_rfl) (by kernel_rfl) (by kernel_rfl) (by kernel_rfl) (by kernel_rfl) (by kernel_rfl) (by kernel_rfl)
noncomputable def vm_Machine__glyphs_rRun : Go.Lf.RunS := ⟨⟨34, TysR, [vm_Machine__top_rEnt, text_Cells_rEnt], [17], [], [(17, (.rw 78 (.st qY21)))], [], TysREq, [], some 4000, TysRIm, []⟩, (Go.Proofs.Tryz.f75.body).getD .skip, (.seq .no (.loop ⟨[7, 8], [(0, .ref 0 [] 0)], [(9, (.int .i64))], [(0, 86, (.st qY112))], []⟩ (.one (.ext 0) ⟨[], [(0, .ref 0 [] 0)], [], [(0, 86, (.st qY112))], []⟩) (.seq .no (.seq .no (.seq (.seq .no (.soup 17)) .no))))), [.obj 86 (.st qY112) (.st qY112) [], .val .str], [], []⟩
noncomputable def vm_Machine__glyphs_r := vm_Machine__glyphs_rRun.F
noncomputable def vm_Machine__glyphs_rEnt : Nat × Go.Lf.Entry := (75, ⟨[.obj 86 (.st qY112) (.st qY112) [], .val .str], [], vm_Machine__glyphs_r⟩)
theorem vm_Machine__glyphs_r_ok : Go.Lf.EntryOk Go.Proofs.Tryz.prog GG 75 vm_Machine__glyphs_rEnt.2 := Go.Lf.run_ok vm_Machine__glyphs_rRun Go.Proofs.Tryz.f75 (by kernel_rfl) ⟨TysR_ok, Go.Lf.FnsOk.look (.con vm_Machine__top_r_ok (.con text_Cells_r_ok .nil)), Go.Lf.IpsOk.look .nil, TysREq_ok, TysRIm_ok, Go.Lf.IvsOk.look .nil, Go.Lf.FxsOk.look .nil⟩ (by kernel_rfl) (by kernel_rfl) (by kernel_rfl) (by kernel_rfl) (by kernel_rfl) (by kernel_rfl) (by kernel_rfl)
noncomputable def style_Apply_rRun : Go.Lf.RunS := ⟨⟨21, TysR, [], [], [], [], [], TysREq, [], some 4000, TysRIm, []⟩, (Go.Proofs.Tryz.f118.body).getD .skip, (.seq .no (.seq .no (.seq (.join (.one .nrm ⟨[], [(4, .ref 4 [] 0), (2, .ref 2 [] 0)], [], [(4, 74, (.st qY1)), (2, 74, (.st qY1))], []⟩) .no) .no))), [.val (.st qY1), .val qY8], [(.st qY1)], [.cell 4 74]⟩
noncomputable def style_Apply_r := style_Apply_rRun.F
noncomputable def style_Apply_rEnt : Nat × Go.Lf.Entry := (118, ⟨[.val (.st qY1), .val qY8], [(.st qY1)], style_Apply_r⟩)
theorem style_Apply_r_ok : Go.Lf.EntryOk Go.Proofs.Tryz.prog GG 118 style_Apply_rEnt.2 := Go.Lf.run_ok style_Apply_rRun Go.Proofs.Tryz.f118 (by kernel_rfl) ⟨TysR_ok, Go.Lf.FnsOk.look .nil, Go.Lf.IpsOk.look .nil, TysREq_ok, TysRIm_ok, Go.Lf.IvsOk.look .nil, Go.Lf.FxsOk.look .nil⟩ (by kernel_rfl) (by kernel_rfl) (by kernel_rfl) (by kernel_rfl) (by kernel_rfl) (by kernel_rfl) (by kernel_rfl)
noncomputable def vm_Machine__styled_rRun : Go.Lf.RunS := ⟨⟨19, TysR, [style_Apply_rEnt], [], [], [], [], TysREq, [], some 4000, TysRIm, []⟩, (Go.Proofs.Tryz.f78.body).getD .skip, (.seq .no (.seq .no (.seq (.draw 9) .no))), [.val (.ptr (.st qY111)), .val (.st qY1), .val (.int .i64)], [(.st qY1)], [.cell 6 74]⟩
noncomputable def vm_Machine__styled_r := vm_Machine__styled_rRun.F
noncomputable def vm_Machine__styled_rEnt : Nat × Go.Lf.Entry := (78, ⟨[.val (.ptr (.st qY111)), .val (.st qY1), .val (.int .i64)], [(.st qY1)], vm_Machine__styled_r⟩)
theorem vm_Machine__styled_r_ok : Go.Lf.EntryOk Go.Proofs.Tryz.prog GG 78 vm_Machine__styled_rEnt.2 := Go.Lf.run_ok vm_Machine__styled_rRun Go.Proofs.Tryz.f78 (by kernel_rfl) ⟨TysR_ok, Go.Lf.FnsOk.look (.con style_Apply_r_ok .nil), Go.Lf.IpsOk.look .nil, TysREq_ok, TysRIm_ok, Go.Lf.IvsOk.look .nil, Go.Lf.FxsOk.look .nil⟩ (by kernel_rfl) (by kernel_rfl) (by kernel_rfl) (by kernel_rfl) (by kernel_rfl) (by kernel_rfl) (by kernel_rfl)
noncomputable def vm_Machine__push_rRun : Go.Lf.RunS := ⟨⟨27, TysR, [], [], [], [], [], TysREq, [], some 4000, TysRIm, []⟩, (Go.Proofs.Tryz.f77.body).getD .skip, (.seq .no (.seq (.draw 12) .no)), [.obj 86 (.st qY112) (.st qY112) [], .val (.int .i64), .val (.int .i64), .val (.st qY1)], [], []⟩
noncomputable def vm_Machine__push_r := vm_Machine__push_rRun.F
noncomputable def vm_Machine__push_rEnt : Nat × Go.Lf.Entry := (77, ⟨[.obj 86 (.st qY112) (.st qY112) [], .val (.int .i64), .val (.int .i64), .val (.st qY1)], [], vm_Machine__push_r⟩)
theorem vm_Machine__push_r_ok : Go.Lf.EntryOk Go.Proofs.Tryz.prog GG 77 vm_Machine__push_rEnt.2 := Go.Lf.run_ok vm_Machine__push_rRun Go.Proofs.Tryz.f77 (by kernel_rfl) ⟨TysR_ok, Go.Lf.FnsOk.look .nil, Go.Lf.IpsOk.look .nil, TysREq_ok, TysRIm_ok, Go.Lf.IvsOk.look .nil, Go.Lf.FxsOk.look .nil⟩ (by kernel_rfl) (by kernel_rfl) (by kernel_rfl) (by kernel_rfl) (by kernel_rfl) (by kernel_rfl) (by kernel_rfl)
noncomputable def vm_Machine__pop_rRun : Go.Lf.RunS := ⟨⟨30, TysR, [], [], [], [], [], TysREq, [], some 4000, TysRIm, []⟩, (Go.Proofs.Tryz.f79.body).getD .skip, (.seq .no (.seq .no (.seq (.soup 10) (.seq (.draw 9) .no)))), [.obj 86 (.st qY112) (.st qY112) []], [qY19], [.cell 2 76]⟩
noncomputable def vm_Machine__pop_r := vm_Machine__pop_rRun.F
noncomputable def vm_Machine__pop_rEnt : Nat × Go.Lf.Entry := (79, ⟨[.obj 86 (.st qY112) (.st qY112) []], [qY19], vm_Machine__pop_r⟩)
theorem vm_Machine__pop_r_ok : Go.Lf.EntryOk Go.Proofs.Tryz.prog GG 79 vm_Machine__pop_rEnt.2 := Go.Lf.run_ok vm_Machine__pop_rRun Go.Proofs.Tryz.f79 (by kernel_rfl) ⟨TysR_ok, Go.Lf.FnsOk.look .nil, Go.Lf.IpsOk.look .nil, TysREq_ok, TysRIm_ok, Go.Lf.IvsOk.look .nil, Go.Lf.FxsOk.look .nil⟩ (by kernel_rfl) (by kernel_rfl) (by kernel_rfl) (by kernel_rfl) (by kernel_rfl) (by kernel_rfl) (by kernel_rfl)
noncomputable def vm_Machine__inline_rRun : Go.Lf.RunS := ⟨⟨126, TysR, [vm_Machine__glyphs_rEnt, vm_Machine__top_rEnt, vm_Machine__push_rEnt, vm_Machine__styled_rEnt, vm_Machine__pop_rEnt], [45, 61, 96], [], [(45, (.rw 78 (.st qY21))), (61, (.rw 78 (.st qY21))), (96, (.rw 80 (.st qY1)))], [], TysREq, [], some 4000, TysRIm, []⟩, (Go.Proofs.Tryz.f41.body).getD .skip, (.seq .no (.seq .no (.seq (.seq (.join (.more .nrm ⟨[], [(0, .ref 0 [] 0), (3, .ref 3 [] 0)], [], [(0, 86, (.st qY112)), (3, 64, qY23)], []⟩ (.more (.ext 7) ⟨[], [(0, .ref 0 [] 0)], [], [(0, 86, (.st qY112))], []⟩ (.one (.ext 0) ⟨[], [(0, .ref 0 [] 0)], [], [(0, 86, (.st qY112))], []⟩))) (.seq (.seq (.seq (.seq .no (.seq (.seq (.draw 8) (.draw 10)) .no)) (.seq (.soup 13) .no)) (.seq (.soup 13) .no)) (.seq (.draw 11) .no))) (.seq (.seq .no (.seq (.join (.one .nrm ⟨[], [(0, .ref 0 [] 0), (3, .ref 3 [] 0), (4, .ref 4 [] 0)], [], [(0, 86, (.st qY112)), (3, 64, qY23), (4, 80, (.st qY1))], []⟩) .no) (.seq (.soup 7) (.seq .no (.draw 7))))) .no)) (.seq (.join (.one .nrm ⟨[], [(0, .ref 0 [] 0)], [], [(0, 86, (.st qY112))], []⟩) .no) .no)))), [.obj 86 (.st qY112) (.st qY112) [], .val qY23], [], []⟩
noncomputable def vm_Machine__inline_r := vm_Machine__inline_rRun.F
noncomputable def vm_Machine__inline_rEnt : Nat × Go.Lf.Entry := (41, ⟨[.obj 86 (.st qY112) (.st qY112) [], .val qY23], [], vm_Machine__inline_r⟩)
theorem vm_Machine__inline_r_ok : Go.Lf.EntryOk Go.Proofs.Tryz.prog GG 41 vm_Machine__inline_rEnt.2 := Go.Lf.run_ok vm_Machine__inline_rRun Go.Proofs.Tryz.f41 (by kernel_rfl) ⟨TysR_ok, Go.Lf.FnsOk.look (.con vm_Machine__glyphs_r_ok (.con vm_Machine__top_r_ok (.con vm_Machine__push_r_ok (.con vm_Machine__styled_r_ok (.con vm_Machine__pop_r_ok .nil))))), Go.Lf.IpsOk.look .nil, TysREq_ok, TysRIm_ok, Go.Lf.IvsOk.look .nil, Go.Lf.FxsOk.look .nil⟩ (by kernel_rfl) (by kernel_rfl) (by kernel_rfl) (by kernel_rfl) (by kernel_rfl) (by kernel_rfl) (by kernel_rfl)
noncomputable def vm_Machine__tell_rRun : Go.Lf.RunS := ⟨⟨23, TysR, [], [17], [], [(17, qY26)], [], TysREq, [], some 4000, TysRIm, []⟩, (Go.Proofs.Tryz.f80.body).getD .skip, .no, [.obj 86 (.st qY112) (.st qY112) [], .val (.sl (.st qY21))], [], []⟩
noncomputable def vm_Machine__tell_r := vm_Machine__tell_rRun.F
noncomputable def vm_Machine__tell_rEnt : Nat × Go.Lf.Entry := (80, ⟨[.obj 86 (.st qY112) (.st qY112) [], .val (.sl (.st qY21))], [], vm_Machine__tell_r⟩)
theorem vm_Machine__tell_r_ok : Go.Lf.EntryOk Go.Proofs.Tryz.prog GG 80 vm_Machine__tell_rEnt.2 := Go.Lf.run_ok vm_Machine__tell_rRun Go.Proofs.Tryz.f80 (by kernel_rfl) ⟨TysR_ok, Go.Lf.FnsOk.look .nil, Go.Lf.IpsOk.look .nil, TysREq_ok, TysRIm_ok, Go.Lf.IvsOk.look .nil, Go.Lf.FxsOk.look .nil⟩ (by kernel_rfl) (by kernel_rfl) (by kernel_rfl) (by kernel_rfl) (by kernel_rfl) (by kernel_rfl) (by kernel_rfl)
noncomputable def table_kind_rRun : Go.Lf.RunS := ⟨⟨11, TysR, [], [], [], [], [], TysREq, [], some 4000, TysRIm, []⟩, (Go.Proofs.Tryz.f149.body).getD .skip, .no, [.val (.st qY21)], [(.int .i64)], [.tmp 2]⟩
noncomputable def table_kind_r := table_kind_rRun.F
noncomputable def table_kind_rEnt : Nat × Go.Lf.Entry := (149, ⟨[.val (.st qY21)], [(.int .i64)], table_kind_r⟩)
theorem table_kind_r_ok : Go.Lf.EntryOk Go.Proofs.Tryz.prog GG 149 table_kind_rEnt.2 := Go.Lf.run_ok table_kind_rRun Go.Proofs.Tryz.f149 (by kernel_rfl) ⟨TysR_ok, Go.Lf.FnsOk.look .nil, Go.Lf.IpsOk.look .nil, TysREq_ok, TysRIm_ok, Go.Lf.IvsOk.look .nil, Go.Lf.FxsOk.look .nil⟩ (by kernel_rfl) (by kernel_rfl) (by kernel_rfl) (by kernel_rfl) (by kernel_rfl) (by kernel_rfl) (by kernel_rfl)
noncomputable def table_check_rRun : Go.Lf.RunS := ⟨⟨30, TysR, [table_kind_rEnt], [], [], [], [], TysREq, [], some 4000, TysRIm, []⟩, (Go.Proofs.Tryz.f146.body).getD .skip, (.seq .no (.seq (.seq .no (.loop ⟨[5, 6], [], [(7, (.int .i64))], [], []⟩ (.more (.ext 0) ⟨[], [], [], [], []⟩ (.one .ret ⟨[], [], [(2, (.int .i64))], [], []⟩)) (.seq .no (.seq .no (.seq (.seq .no (.seq (.join (.one .nrm ⟨[5, 6, 7], [], [(28, .bool)], [], []⟩) .no) .no)) .no))))) .no)), [.val (.sl (.st qY21))], [(.int .i64)], [.tmp 2]⟩
noncomputable def table_check_r := table_check_rRun.F
noncomputable def table_check_rEnt : Nat × Go.Lf.Entry := (146, ⟨[.val (.sl (.st qY21))], [(.int .i64)], table_check_r⟩)
theorem table_check_r_ok : Go.Lf.EntryOk Go.Proofs.Tryz.prog GG 146 table_check_rEnt.2 := Go.Lf.run_ok table_check_rRun Go.Proofs.Tryz.f146 (by kernel_rfl) ⟨TysR_ok, Go.Lf.FnsOk.look (.con table_kind_r_ok .nil), Go.Lf.IpsOk.look .nil, TysREq_ok, TysRIm_ok, Go.Lf.IvsOk.look .nil, Go.Lf.FxsOk.look .nil⟩ (by kernel_rfl) (by kernel_rfl) (by kernel_rfl) (by kernel_rfl) (by kernel_rfl) (by kernel_rfl) (by kernel_rfl)
noncomputable def table_filler__end_rRun : Go.Lf.RunS := ⟨⟨24, TysR, [], [6], [], [(6, qY26)], [], TysREq, [], some 4000, TysRIm, []⟩, (Go.Proofs.Tryz.f151.body).getD .skip, (.seq (.soup 10) .no), [.obj 229 (.st qY50) (.st qY50) []], [], []⟩
noncomputable def table_filler__end_r := table_filler__end_rRun.F
noncomputable def table_filler__end_rEnt : Nat × Go.Lf.Entry := (151, ⟨[.obj 229 (.st qY50) (.st qY50) []], [], table_filler__end_r⟩)
theorem table_filler__end_r_ok : Go.Lf.EntryOk Go.Proofs.Tryz.prog GG 151 table_filler__end_rEnt.2 := Go.Lf.run_ok table_filler__end_rRun Go.Proofs.Tryz.f151 (by kernel_rfl) ⟨TysR_ok, Go.Lf.FnsOk.look .nil, Go.Lf.IpsOk.look .nil, TysREq_ok, TysRIm_ok, Go.Lf.IvsOk.look .nil, Go.Lf.FxsOk.look .nil⟩ (by kernel_rfl) (by kernel_rfl) (by kernel_rfl) (by kernel_rfl) (by kernel_rfl) (by kernel_rfl) (by kernel_rfl)
noncomputable def table_filler__put_rRun : Go.Lf.RunS := ⟨⟨23, TysR, [], [8], [], [(8, (.rw 78 (.st qY21)))], [], TysREq, [], some 4000, TysRIm, []⟩, (Go.Proofs.Tryz.f170.body).getD .skip, (.seq .no (.seq (.soup 7) (.draw 9))), [.obj 229 (.st qY50) (.st qY50) [], .val (.st qY21)], [], []⟩
noncomputable def table_filler__put_r := table_filler__put_rRun.F
noncomputable def table_filler__put_rEnt : Nat × Go.Lf.Entry := (170, ⟨[.obj 229 (.st qY50) (.st qY50) [], .val (.st qY21)], [], table_filler__put_r⟩)
theorem table_filler__put_r_ok : Go.Lf.EntryOk Go.Proofs.Tryz.prog GG 170 table_filler__put_rEnt.2 := Go.Lf.run_ok table_filler__put_rRun Go.Proofs.Tryz.f170 (by kernel_rfl) ⟨TysR_ok, Go.Lf.FnsOk.look .nil, Go.Lf.IpsOk.look .nil, TysREq_ok, TysRIm_ok, Go.Lf.IvsOk.look .nil, Go.Lf.FxsOk.look .nil⟩ (by kernel_rfl) (by kernel_rfl) (by kernel_rfl) (by kernel_rfl) (by kernel_rfl) (by kernel_rfl) (by kernel_rfl)
noncomputable def table_filler__putD_rRun : Go.Lf.RunS := ⟨⟨23, TysR, [], [8], [], [(8, (.rw 78 (.st qY21)))], [], TysREq, [], some 4000, TysRIm, []⟩, (Go.Proofs.Tryz.f170.body).getD .skip, (.seq .no (.seq (.soup 7) (.draw 9))), [.obj 229 (.st qY51) (.st qY51) [], .val (.st qY21)], [], []⟩
noncomputable def table_filler__putD_r := table_filler__putD_rRun.F
noncomputable def table_filler__putD_rEnt : Nat × Go.Lf.Entry := (170, ⟨[.obj 229 (.st qY51) (.st qY51) [], .val (.st qY21)], [], table_filler__putD_r⟩)
theorem table_filler__putD_r_ok : Go.Lf.EntryOk Go.Proofs.Tryz.prog GG 170 table_filler__putD_rEnt.2 := Go.Lf.run_ok table_filler__putD_rRun Go.Proofs.Tryz.f170 (by kernel_rfl) ⟨TysR_ok, Go.Lf.FnsOk.look .nil, Go.Lf.IpsOk.look .nil, TysREq_ok, TysRIm_ok, Go.Lf.IvsOk.look .nil, Go.Lf.FxsOk.look .nil⟩ (by kernel_rfl) (by kernel_rfl) (by kernel_rfl) (by kernel_rfl) (by kernel_rfl) (by kernel_rfl) (by kernel_rfl)
noncomputable def table_filler__tabbed_rRun : Go.Lf.RunS := ⟨⟨34, TysR, [table_filler__end_rEnt, table_filler__put_rEnt], [], [], [], [], TysREq, [], some 4000, TysRIm, []⟩, (Go.Proofs.Tryz.f171.body).getD .skip, (.seq .no (.seq .no (.seq .no (.seq .no (.seq .no (.loop ⟨[4], [(3, .ref 3 [] 0), (0, .ref 0 [] 0)], [], [(3, 78, (.st qY21)), (0, 229, (.st qY50))], []⟩ (.one (.ext 0) ⟨[], [(0, .ref 0 [] 0)], [], [(0, 229, (.st qY50))], []⟩) .no)))))), [.obj 229 (.st qY50) (.st qY50) [], .val (.st qY21)], [], []⟩
noncomputable def table_filler__tabbed_r := table_filler__tabbed_rRun.F
noncomputable def table_filler__tabbed_rEnt : Nat × Go.Lf.Entry := (171, ⟨[.obj 229 (.st qY50) (.st qY50) [], .val (.st qY21)], [], table_filler__tabbed_r⟩)
theorem table_filler__tabbed_r_ok : Go.Lf.EntryOk Go.Proofs.Tryz.prog GG 171 table_filler__tabbed_rEnt.2 := Go.Lf.run_ok table_filler__tabbed_rRun Go.Proofs.Tryz.f171 (by kernel_rfl) ⟨TysR_ok, Go.Lf.FnsOk.look (.con table_filler__end_r_ok (.con table_filler__put_r_ok .nil)), Go.Lf.IpsOk.look .nil, TysREq_ok, TysRIm_ok, Go.Lf.IvsOk.look .nil, Go.Lf.FxsOk.look .nil⟩ (by kernel_rfl) (by kernel_rfl) (by kernel_rfl) (by kernel_rfl) (by kernel_rfl) (by kernel_rfl) (by kernel_rfl)
noncomputable def table_filler__leap_rRun : Go.Lf.RunS := ⟨⟨12, TysR, [table_kind_rEnt, table_filler__end_rEnt, table_filler__tabbed_rEnt], [], [], [], [], TysREq, [], some 4000, TysRIm, []⟩, (Go.Proofs.Tryz.f150.body).getD .skip, .no, [.obj 229 (.st qY50) (.st qY50) [], .val (.st qY21)], [], []⟩
noncomputable def table_filler__leap_r := table_filler__leap_rRun.F
noncomputable def table_filler__leap_rEnt : Nat × Go.Lf.Entry := (150, ⟨[.obj 229 (.st qY50) (.st qY50) [], .val (.st qY21)], [], table_filler__leap_r⟩)
theorem table_filler__leap_r_ok : Go.Lf.EntryOk Go.Proofs.Tryz.prog GG 150 table_filler__leap_rEnt.2 := Go.Lf.run_ok table_filler__leap_rRun Go.Proofs.Tryz.f150 (by kernel_rfl) ⟨TysR_ok, Go.Lf.FnsOk.look (.con table_kind_r_ok (.con table_filler__end_r_ok (.con table_filler__tabbed_r_ok .nil))), Go.Lf.IpsOk.look .nil, TysREq_ok, TysRIm_ok, Go.Lf.IvsOk.look .nil, Go.Lf.FxsOk.look .nil⟩ (by kernel_rfl) (by kernel_rfl) (by kernel_rfl) (by kernel_rfl) (by kernel_rfl) (by kernel_rfl) (by kernel_rfl)
noncomputable def table_Wide_rRun : Go.Lf.RunS := ⟨⟨18, TysR, [], [], [], [], [], TysREq, [], some 4000, TysRIm, []⟩, (Go.Proofs.Tryz.f152.body).getD .skip, (.seq .no (.seq .no (.seq (.seq .no (.loop ⟨[6, 7], [], [(8, (.int .i64)), (3, (.int .i64))], [], []⟩ (.one (.ext 0) ⟨[], [], [(3, (.int .i64))], [], []⟩) .no)) .no))), [.val (.sl (.st qY21))], [(.int .i64)], [.tmp 2]⟩
noncomputable def table_Wide_r := table_Wide_rRun.F
noncomputable def table_Wide_rEnt : Nat × Go.Lf.Entry := (152, ⟨[.val (.sl (.st qY21))], [(.int .i64)], table_Wide_r⟩)
theorem table_Wide_r_ok : Go.Lf.EntryOk Go.Proofs.Tryz.prog GG 152 table_Wide_rEnt.2 := Go.Lf.run_ok table_Wide_rRun Go.Proofs.Tryz.f152 (by kernel_rfl) ⟨TysR_ok, Go.Lf.FnsOk.look .nil, Go.Lf.IpsOk.look .nil, TysREq_ok, TysRIm_ok, Go.Lf.IvsOk.look .nil, Go.Lf.FxsOk.look .nil⟩ (by kernel_rfl) (by kernel_rfl) (by kernel_rfl) (by kernel_rfl) (by kernel_rfl) (by kernel_rfl) (by kernel_rfl)
noncomputable def table_filler__word_rRun : Go.Lf.RunS := ⟨⟨79, TysR, [table_filler__end_rEnt, table_Wide_rEnt, table_filler__put_rEnt], [], [], [], [], TysREq, [(39, table_filler__putD_rEnt)], some 4000, TysRIm, []⟩, (Go.Proofs.Tryz.f148.body).getD .skip, (.seq (.seq (.draw 18) (.cnd (.seq (.seq .no (.loop ⟨[32], [(0, .ref 0 [] 0)], [(33, (.int .i64)), (31, (.mr 78 (.st qY21)))], [(0, 229, (.st qY51))], []⟩ (.one (.ext 0) ⟨[], [(0, .ref 0 [] 0)], [], [(0, 229, (.st qY51))], []⟩) .no)) .no) .no)) (.seq .no (.seq (.join (.one .nrm ⟨[1], [(0, .ref 0 [] 0)], [], [(0, 229, (.st qY50))], []⟩) .no) (.seq .no (.loop ⟨[55, 56], [(0, .ref 0 [] 0)], [(57, (.int .i64))], [(0, 229, (.st qY50))], []⟩ (.one (.ext 2) ⟨[], [(0, .ref 0 [] 0)], [], [(0, 229, (.st qY50))], []⟩) (.seq .no (.seq .no (.seq (.seq .no (.seq (.join (.one .nrm ⟨[55, 56, 57], [(0, .ref 0 [] 0), (7, .ref 7 [] 0)], [], [(0, 229, (.st qY50)), (7, 78, (.st qY21))], []⟩) (.seq (.draw 12) .no)) .no)) .no)))))))), [.obj 229 (.st qY50) (.st qY50) [], .val (.sl (.st qY21))], [], []⟩
noncomputable def table_filler__word_r := table_filler__word_rRun.F
noncomputable def table_filler__word_rEnt : Nat × Go.Lf.Entry := (148, ⟨[.obj 229 (.st qY50) (.st qY50) [], .val (.sl (.st qY21))], [], table_filler__word_r⟩)
theorem table_filler__word_r_ok : Go.Lf.EntryOk Go.Proofs.Tryz.prog GG 148 table_filler__word_rEnt.2 := Go.Lf.run_ok table_filler__word_rRun Go.Proofs.Tryz.f148 (by kernel_rfl) ⟨TysR_ok, Go.Lf.FnsOk.look (.con table_filler__end_r_ok (.con table_Wide_r_ok (.con table_filler__put_r_ok .nil))), Go.Lf.IpsOk.look .nil, TysREq_ok, TysRIm_ok, Go.Lf.IvsOk.look .nil, Go.Lf.FxsOk.look (.cons table_filler__putD_r_ok .nil)⟩ (by kernel_rfl) (by kernel_rfl) (by kernel_rfl) (by kernel_rfl) (by kernel_rfl) (by kernel_rfl) (by kernel_rfl)
noncomputable def table_Fill_1_rRun : Go.Lf.RunS := ⟨⟨8, TysR, [table_filler__word_rEnt], [], [], [], [], TysREq, [], some 4000, TysRIm, []⟩, (Go.Proofs.Tryz.f147.body).getD .skip, .no, [.obj 50 (.rw 78 (.st qY21)) (.rw 78 (.st qY21)) [], .obj 229 (.st qY50) (.st qY50) [] .cel], [], []⟩
noncomputable def table_Fill_1_r := table_Fill_1_rRun.F
noncomputable def table_Fill_1_rEnt : Nat × Go.Lf.Entry := (147, ⟨[.obj 50 (.rw 78 (.st qY21)) (.rw 78 (.st qY21)) [], .obj 229 (.st qY50) (.st qY50) [] .cel], [], table_Fill_1_r⟩)
theorem table_Fill_1_r_ok : Go.Lf.EntryOk Go.Proofs.Tryz.prog GG 147 table_Fill_1_rEnt.2 := Go.Lf.run_ok table_Fill_1_rRun Go.Proofs.Tryz.f147 (by kernel_rfl) ⟨TysR_ok, Go.Lf.FnsOk.look (.con table_filler__word_r_ok .nil), Go.Lf.IpsOk.look .nil, TysREq_ok, TysRIm_ok, Go.Lf.IvsOk.look .nil, Go.Lf.FxsOk.look .nil⟩ (by kernel_rfl) (by kernel_rfl) (by kernel_rfl) (by kernel_rfl) (by kernel_rfl) (by kernel_rfl) (by kernel_rfl)
noncomputable def table_Fill_rRun : Go.Lf.RunS := ⟨⟨95, TysR, [table_check_rEnt, table_Fill_1_rEnt, table_kind_rEnt, table_filler__leap_rEnt, table_filler__end_rEnt], [4, 49, 94], [], [(4, qY26), (7, .bn), (8, (.rw 78 (.st qY21))), (24, (.st qY50)), (49, (.rw 78 (.st qY21))), (72, (.mr 78 (.st qY21))), (94, qY26)], [], TysREq, [], some 4000, TysRIm, []⟩, (Go.Proofs.Tryz.f119.body).getD .skip, (.seq .no (.seq (.seq (.join (.one .nrm ⟨[1, 0], [], [(17, .bool)], [], []⟩) .no) .no) (.seq .no (.seq .no (.seq .no (.seq .no (.seq .no (.seq (.seq .no (.loop ⟨[1, 27, 28], [(8, .ref 8 [] 0), (7, .cel 25 [] 0), (9, .clo 147 0 [(false, 8, [], 0), (true, 25, [], 0)])], [(29, (.int .i64))], [(8, 50, (.rw 78 (.st qY21))), (25, 229, (.st qY50))], []⟩ (.one (.ext 0) ⟨[], [(7, .cel 25 [] 0), (9, .clo 147 0 [(false, 8, [], 0), (true, 25, [], 0)])], [], [(25, 229, (.st qY50)), (8, 50, (.rw 78 (.st qY21)))], []⟩) (.seq .no (.seq .no (.seq (.join (.one .nrm ⟨[1, 27, 28, 29], [(8, .ref 8 [] 0), (7, .cel 25 [] 0), (9, .clo 147 0 [(false, 8, [], 0), (true, 25, [], 0)])], [], [(8, 50, (.rw 78 (.st qY21))), (25, 229, (.st qY50))], []⟩) (.seq .no (.seq .no (.seq (.join (.more .nrm ⟨[1, 27, 28, 29], [(8, .ref 8 [] 0), (7, .cel 25 [] 0), (9, .clo 147 0 [(false, 8, [], 0), (true, 25, [], 0)]), (11, .ref 11 [] 0)], [], [(8, 50, (.rw 78 (.st qY21))), (25, 229, (.st qY50)), (11, 78, (.st qY21))], []⟩ (.more (.ext 2) ⟨[1, 27, 28, 29], [(8, .ref 8 [] 0), (7, .cel 25 [] 0), (9, .clo 147 0 [(false, 8, [], 0), (true, 25, [], 0)])], [], [(8, 50, (.rw 78 (.st qY21))), (25, 229, (.st qY50))], []⟩ (.one (.ext 1) ⟨[1, 27, 28, 29], [(8, .ref 8 [] 0), (7, .cel 25 [] 0), (9, .clo 147 0 [(false, 8, [], 0), (true, 25, [], 0)])], [], [(8, 50, (.rw 78 (.st qY21))), (25, 229, (.st qY50))], []⟩))) (.seq (.seq .no (.seq (.seq (.join (.one .nrm ⟨[1, 27, 28, 29], [(8, .ref 8 [] 0), (7, .cel 25 [] 0), (9, .clo 147 0 [(false, 8, [], 0), (true, 25, [], 0)]), (11, .ref 11 [] 0)], [], [(8, 50, (.rw 78 (.st qY21))), (25, 229, (.st qY50)), (11, 78, (.st qY21))], []⟩) .no) .no) .no)) (.seq (.join (.one .nrm ⟨[1, 27, 28, 29], [(8, .ref 8 [] 0), (7, .cel 25 [] 0), (9, .clo 147 0 [(false, 8, [], 0), (true, 25, [], 0)])], [], [(8, 50, (.rw 78 (.st qY21))), (25, 229, (.st qY50))], []⟩) (.seq .no (.seq (.join (.one .nrm ⟨[1, 27, 28, 29], [(8, .ref 8 [] 0), (7, .cel 25 [] 0), (9, .clo 147 0 [(false, 8, [], 0), (true, 25, [], 0)]), (11, .ref 11 [] 0)], [(68, .bool)], [(8, 50, (.rw 78 (.st qY21))), (25, 229, (.st qY50)), (11, 78, (.st qY21))], []⟩) .no) .no))) .no))) .no)))) .no))))) (.seq .no (.seq (.join (.one .nrm ⟨[], [(7, .cel 25 [] 0)], [], [(25, 229, (.st qY50))], []⟩) .no) .no)))))))))), [.val (.sl (.st qY21)), .val (.int .i64)], [qY26, (.int .i64)], [.tmp 4, .tmp 5]⟩
noncomputable def table_Fill_r := table_Fill_rRun.F
noncomputable def table_Fill_rEnt : Nat × Go.Lf.Entry := (119, ⟨[.val (.sl (.st qY21)), .val (.int .i64)], [qY26, (.int .i64)], table_Fill_r⟩)
theorem table_Fill_r_ok : Go.Lf.EntryOk Go.Proofs.Tryz.prog GG 119 table_Fill_rEnt.2 := Go.Lf.run_ok table_Fill_rRun Go.Proofs.Tryz.f119 (by kernel_rfl) ⟨TysR_ok, Go.Lf.FnsOk.look (.con table_check_r_ok (.con table_Fill_1_r_ok (.con table_kind_r_ok (.con table_filler__leap_r_ok (.con table_filler__end_r_ok .nil))))), Go.Lf.IpsOk.look .nil, TysREq_ok, TysRIm_ok, Go.Lf.IvsOk.look .nil, Go.Lf.FxsOk.look .nil⟩ (by kernel_rfl) (by kernel_rfl) (by kernel_rfl) (by kernel_rfl) (by kernel_rfl) (by kernel_rfl) (by kernel_rfl)
noncomputable def vm_pad_rRun : Go.Lf.RunS := ⟨⟨19, TysR, [vm_plain_rEnt, table_Wide_rEnt], [0, 4, 13, 18], [], [(0, (.rw 78 (.st qY21))), (4, (.rw 78 (.st qY21))), (13, (.rw 78 (.st qY21))), (18, (.rw 78 (.st qY21)))], [], TysREq, [], some 4000, TysRIm, []⟩, (Go.Proofs.Tryz.f121.body).getD .skip, (.seq .no (.seq (.seq .no (.loop ⟨[1], [], [(5, (.int .i64)), (0, (.rw 78 (.st qY21)))], [], []⟩ (.one (.ext 0) ⟨[], [], [(0, (.rw 78 (.st qY21)))], [], []⟩) .no)) .no)), [.val (.rw 78 (.st qY21)), .val (.int .i64)], [(.rw 78 (.st qY21))], [.tmp 4]⟩
noncomputable def vm_pad_r := vm_pad_rRun.F
noncomputable def vm_pad_rEnt : Nat × Go.Lf.Entry := (121, ⟨[.val (.rw 78 (.st qY21)), .val (.int .i64)], [(.rw 78 (.st qY21))], vm_pad_r⟩)
theorem vm_pad_r_ok : Go.Lf.EntryOk Go.Proofs.Tryz.prog GG 121 vm_pad_rEnt.2 := Go.Lf.run_ok vm_pad_rRun Go.Proofs.Tryz.f121 (by kernel_rfl) ⟨TysR_ok, Go.Lf.FnsOk.look (.con vm_plain_r_ok (.con table_Wide_r_ok .nil)), Go.Lf.IpsOk.look .nil, TysREq_ok, TysRIm_ok, Go.Lf.IvsOk.look .nil, Go.Lf.FxsOk.look .nil⟩ (by kernel_rfl) (by kernel_rfl) (by kernel_rfl) (by kernel_rfl) (by kernel_rfl) (by kernel_rfl) (by kernel_rfl)
noncomputable def vm_Machine__marked_rRun : Go.Lf.RunS := ⟨⟨30, TysR, [vm_plain_rEnt, vm_pad_rEnt], [2, 3, 19, 29], [], [(2, (.rw 78 (.st qY21))), (3, (.rw 78 (.st qY21))), (19, (.rw 78 (.st qY21))), (29, (.rw 78 (.st qY21)))], [], TysREq, [], some 4000, TysRIm, []⟩, (Go.Proofs.Tryz.f120.body).getD .skip, (.seq .no (.seq .no (.seq (.seq .no (.loop ⟨[], [(0, .ref 0 [] 0)], [(3, (.rw 78 (.st qY21))), (15, .it)], [(0, 86, (.st qY112))], []⟩ (.one (.ext 0) ⟨[], [(0, .ref 0 [] 0)], [(3, (.rw 78 (.st qY21)))], [(0, 86, (.st qY112))], []⟩) .no)) .no))), [.obj 86 (.st qY112) (.st qY112) []], [(.rw 78 (.st qY21))], [.tmp 2]⟩
noncomputable def vm_Machine__marked_r := vm_Machine__marked_rRun.F
noncomputable def vm_Machine__marked_rEnt : Nat × Go.Lf.Entry := (120, ⟨[.obj 86 (.st qY112) (.st qY112) []], [(.rw 78 (.st qY21))], vm_Machine__marked_r⟩)
theorem vm_Machine__marked_r_ok : Go.Lf.EntryOk Go.Proofs.Tryz.prog GG 120 vm_Machine__marked_rEnt.2 := Go.Lf.run_ok vm_Machine__marked_rRun Go.Proofs.Tryz.f120 (by kernel_rfl) ⟨TysR_ok, Go.Lf.FnsOk.look (.con vm_plain_r_ok (.con vm_pad_r_ok .nil)), Go.Lf.IpsOk.look .nil, TysREq_ok, TysRIm_ok, Go.Lf.IvsOk.look .nil, Go.Lf.FxsOk.look .nil⟩ (by kernel_rfl) (by kernel_rfl) (by kernel_rfl) (by kernel_rfl) (by kernel_rfl) (by kernel_rfl) (by kernel_rfl)
noncomputable def vm_Machine__settle_rRun : Go.Lf.RunS := ⟨⟨11, TysR, [vm_Machine__tell_rEnt, vm_Machine__marked_rEnt], [], [], [], [], TysREq, [], some 4000, TysRIm, []⟩, (Go.Proofs.Tryz.f82.body).getD .skip, .no, [.obj 86 (.st qY112) (.st qY112) []], [], []⟩
noncomputable def vm_Machine__settle_r := vm_Machine__settle_rRun.F
noncomputable def vm_Machine__settle_rEnt : Nat × Go.Lf.Entry := (82, ⟨[.obj 86 (.st qY112) (.st qY112) []], [], vm_Machine__settle_r⟩)
theorem vm_Machine__settle_r_ok : Go.Lf.EntryOk Go.Proofs.Tryz.prog GG 82 vm_Machine__settle_rEnt.2 := Go.Lf.run_ok vm_Machine__settle_rRun Go.Proofs.Tryz.f82 (by kernel_rfl) ⟨TysR_ok, Go.Lf.FnsOk.look (.con vm_Machine__tell_r_ok (.con vm_Machine__marked_r_ok .nil)), Go.Lf.IpsOk.look .nil, TysREq_ok, TysRIm_ok, Go.Lf.IvsOk.look .nil, Go.Lf.FxsOk.look .nil⟩ (by kernel_rfl) (by kernel_rfl) (by kernel_rfl) (by kernel_rfl) (by kernel_rfl) (by kernel_rfl) (by kernel_rfl)
noncomputable def vm_Machine__end_rRun : Go.Lf.RunS := ⟨⟨76, TysR, [vm_Machine__tell_rEnt, vm_Machine__settle_rEnt, table_Fill_rEnt, vm_Machine__marked_rEnt, vm_pad_rEnt], [6, 15, 66], [], [(6, (.rw 78 (.st qY21))), (15, qY26), (66, (.rw 78 (.st qY21)))], [], TysREq, [], some 4000, TysRIm, []⟩, (Go.Proofs.Tryz.f81.body).getD .skip, (.seq (.seq .no (.cnd (.seq (.soup 10) .no) .no)) (.seq (.soup 17) (.seq .no (.seq (.join (.one .nrm ⟨[2], [(0, .ref 0 [] 0)], [], [(0, 86, (.st qY112))], []⟩) .no) (.seq .no (.loop ⟨[52, 53], [(0, .ref 0 [] 0)], [(54, (.int .i64))], [(0, 86, (.st qY112))], []⟩ (.one (.ext 0) ⟨[], [(0, .ref 0 [] 0)], [], [(0, 86, (.st qY112))], []⟩) (.seq .no (.seq .no (.seq (.seq .no (.seq .no (.seq (.join (.one .nrm ⟨[52, 53, 54, 5], [(0, .ref 0 [] 0)], [(6, (.rw 78 (.st qY21)))], [(0, 86, (.st qY112))], []⟩) .no) .no))) .no))))))))), [.obj 86 (.st qY112) (.st qY112) []], [], []⟩
noncomputable def vm_Machine__end_r := vm_Machine__end_rRun.F
noncomputable def vm_Machine__end_rEnt : Nat × Go.Lf.Entry := (81, ⟨[.obj 86 (.st qY112) (.st qY112) []], [], vm_Machine__end_r⟩)
theorem vm_Machine__end_r_ok : Go.Lf.EntryOk Go.Proofs.Tryz.prog GG 81 vm_Machine__end_rEnt.2 := Go.Lf.run_ok vm_Machine__end_rRun Go.Proofs.Tryz.f81 (by kernel_rfl) ⟨TysR_ok, Go.Lf.FnsOk.look (.con vm_Machine__tell_r_ok (.con vm_Machine__settle_r_ok (.con table_Fill_r_ok (.con vm_Machine__marked_r_ok (.con vm_pad_r_ok .nil))))), Go.Lf.IpsOk.look .nil, TysREq_ok, TysRIm_ok, Go.Lf.IvsOk.look .nil, Go.Lf.FxsOk.look .nil⟩ (by kernel_rfl) (by kernel_rfl) (by kernel_rfl) (by kernel_rfl) (by kernel_rfl) (by kernel_rfl) (by kernel_rfl)
noncomputable def vm_Machine__mark_rRun : Go.Lf.RunS := ⟨⟨93, TysR, [strconv_ItoaEnt], [], [], [], [], TysREq, [], some 4000, TysRIm, []⟩, (Go.Proofs.Tryz.f83.body).getD .skip, (.seq (.draw 12) (.seq (.draw 10) (.seq .no (.seq .no (.seq .no (.seq (.draw 17) (.seq .no (.draw 18)))))))), [.obj 86 (.st qY112) (.st qY112) []], [], []⟩
noncomputable def vm_Machine__mark_r := vm_Machine__mark_rRun.F
noncomputable def vm_Machine__mark_rEnt : Nat × Go.Lf.Entry := (83, ⟨[.obj 86 (.st qY112) (.st qY112) []], [], vm_Machine__mark_r⟩)
theorem vm_Machine__mark_r_ok : Go.Lf.EntryOk Go.Proofs.Tryz.prog GG 83 vm_Machine__mark_rEnt.2 := Go.Lf.run_ok vm_Machine__mark_rRun Go.Proofs.Tryz.f83 (by kernel_rfl) ⟨TysR_ok, Go.Lf.FnsOk.look (.con strconv_Itoa_ok .nil), Go.Lf.IpsOk.look .nil, TysREq_ok, TysRIm_ok, Go.Lf.IvsOk.look .nil, Go.Lf.FxsOk.look .nil⟩ (by kernel_rfl) (by kernel_rfl) (by kernel_rfl) (by kernel_rfl) (by kernel_rfl) (by kernel_rfl) (by kernel_rfl)
noncomputable def table_shared_rRun : Go.Lf.RunS := ⟨⟨106, TysR, [], [], [], [(18, (.mr 3 (.int .i64)))], [], TysREq, [], some 4000, TysRIm, []⟩, (Go.Proofs.Tryz.f122.body).getD .skip, (.seq .no (.seq .no (.seq (.seq .no (.cnd (.seq .no (.seq .no (.seq (.seq .no (.loop ⟨[3, 10, 28], [], [(29, (.int .i64)), (11, (.int .i64)), (9, (.mr 3 (.int .i64)))], [], []⟩ (.one (.ext 0) ⟨[], [], [(9, (.mr 3 (.int .i64)))], [], []⟩) (.seq .no (.seq .no (.seq (.join (.one .nrm ⟨[3, 10, 28, 29], [], [(11, (.int .i64)), (9, (.mr 3 (.int .i64)))], [], []⟩) (.seq .no (.seq .no (.seq .no (.seq (.join (.one .nrm ⟨[3, 10, 28, 29, 11], [], [(9, (.mr 3 (.int .i64)))], [], []⟩) .no) .no))))) .no))))) .no))) .no)) (.seq .no (.seq (.seq .no (.loop ⟨[1, 59], [], [(60, (.int .i64)), (9, (.mr 3 (.int .i64))), (13, (.int .i64))], [], []⟩ (.one (.ext 2) ⟨[1], [], [(9, (.mr 3 (.int .i64))), (13, (.int .i64))], [], []⟩) .no)) (.seq (.loop ⟨[1], [], [(9, (.mr 3 (.int .i64))), (13, (.int .i64))], [], []⟩ (.one (.ext 4) ⟨[], [], [(9, (.mr 3 (.int .i64)))], [], []⟩) (.seq .no (.seq (.seq .no (.seq (.seq .no (.loop ⟨[1, 13, 84], [], [(85, (.int .i64)), (15, (.int .i64)), (9, (.mr 3 (.int .i64)))], [], []⟩ (.one (.ext 6) ⟨[1, 13], [], [(9, (.mr 3 (.int .i64))), (15, (.int .i64))], [], []⟩) (.seq .no (.seq .no (.seq (.join (.one .nrm ⟨[1, 13, 84, 85], [], [(15, (.int .i64)), (9, (.mr 3 (.int .i64)))], [], []⟩) (.seq .no (.seq (.draw 9) .no))) .no))))) .no)) .no))) .no)))))), [.val (.sl (.int .i64)), .val (.int .i64), .val (.int .i64), .val (.int .i64)], [(.mr 3 (.int .i64))], [.tmp 8]⟩
noncomputable def table_shared_r := table_shared_rRun.F
noncomputable def table_shared_rEnt : Nat × Go.Lf.Entry := (122, ⟨[.val (.sl (.int .i64)), .val (.int .i64), .val (.int .i64), .val (.int .i64)], [(.mr 3 (.int .i64))], table_shared_r⟩)
theorem table_shared_r_ok : Go.Lf.EntryOk Go.Proofs.Tryz.prog GG 122 table_shared_rEnt.2 := Go.Lf.run_ok table_shared_rRun Go.Proofs.Tryz.f122 (by kernel_rfl) ⟨TysR_ok, Go.Lf.FnsOk.look .nil, Go.Lf.IpsOk.look .nil, TysREq_ok, TysRIm_ok, Go.Lf.IvsOk.look .nil, Go.Lf.FxsOk.look .nil⟩ (by kernel_rfl) (by kernel_rfl) (by kernel_rfl) (by kernel_rfl) (by kernel_rfl) (by kernel_rfl) (by kernel_rfl)
noncomputable def table_Columns_rRun : Go.Lf.RunS := ⟨⟨90, TysR, [table_shared_rEnt], [4, 14, 77, 89], [], [(4, (.rw 201 (.st qY1))), (14, (.rw 201 (.st qY1))), (77, (.rw 201 (.st qY1))), (89, (.rw 201 (.st qY1)))], [], TysREq, [], some 4000, TysRIm, []⟩, (Go.Proofs.Tryz.f84.body).getD .skip, (.seq .no (.seq .no (.seq (.seq (.join (.one .nrm ⟨[0, 6, 1], [], [(33, .bool)], [], []⟩) .no) .no) (.seq .no (.seq (.seq .no (.loop ⟨[34, 0, 6, 1, 35], [], [(36, (.int .i64)), (8, (.int .i64)), (7, (.int .i64))], [], []⟩ (.more (.ext 0) ⟨[0, 6, 1], [], [(8, (.int .i64)), (7, (.int .i64))], [], []⟩ (.one .ret ⟨[], [], [(4, (.rw 201 (.st qY1))), (5, (.int .i64))], [], []⟩)) (.seq .no (.seq .no (.seq (.join (.more .ret ⟨[], [], [(4, (.rw 201 (.st qY1))), (5, (.int .i64))], [], []⟩ (.one .nrm ⟨[34, 0, 6, 1, 35, 36], [], [(8, (.int .i64)), (7, (.int .i64))], [], []⟩)) (.seq .no (.seq (.seq (.join (.one .nrm ⟨[34, 0, 6, 1, 35, 36, 8, 10, 7], [], [(45, .bool)], [], []⟩) .no) .no) .no))) .no))))) (.seq .no (.seq (.join (.one .nrm ⟨[8, 7, 0, 6, 1], [], [(11, (.int .i64))], [], []⟩) .no) (.seq .no (.seq .no (.seq .no (.seq .no (.seq (.seq .no (.loop ⟨[11, 71, 72], [], [(73, (.int .i64)), (15, (.int .i64)), (14, (.rw 201 (.st qY1)))], [], []⟩ (.one (.ext 2) ⟨[], [], [(14, (.rw 201 (.st qY1)))], [], []⟩) .no)) .no)))))))))))), [.val (.sl (.int .i64)), .val (.int .i64)], [(.rw 201 (.st qY1)), (.int .i64)], [.tmp 4, .tmp 5]⟩
noncomputable def table_Columns_r := table_Columns_rRun.F
noncomputable def table_Columns_rEnt : Nat × Go.Lf.Entry := (84, ⟨[.val (.sl (.int .i64)), .val (.int .i64)], [(.rw 201 (.st qY1)), (.int .i64)], table_Columns_r⟩)
theorem table_Columns_r_ok : Go.Lf.EntryOk Go.Proofs.Tryz.prog GG 84 table_Columns_rEnt.2 := Go.Lf.run_ok table_Columns_rRun Go.Proofs.Tryz.f84 (by kernel_rfl) ⟨TysR_ok, Go.Lf.FnsOk.look (.con table_shared_r_ok .nil), Go.Lf.IpsOk.look .nil, TysREq_ok, TysRIm_ok, Go.Lf.IvsOk.look .nil, Go.Lf.FxsOk.look .nil⟩ (by kernel_rfl) (by kernel_rfl) (by kernel_rfl) (by kernel_rfl) (by kernel_rfl) (by kernel_rfl) (by kernel_rfl)
noncomputable def table_columns_rRun : Go.Lf.RunS := ⟨⟨40, TysR, [], [], [], [], [], TysREq, [], some 4000, TysRIm, []⟩, (Go.Proofs.Tryz.f153.body).getD .skip, (.seq .no (.seq .no (.seq (.seq .no (.loop ⟨[6, 7], [], [(8, (.int .i64)), (3, (.int .i64))], [], []⟩ (.more (.ext 0) ⟨[], [], [], [], []⟩ (.one .ret ⟨[], [], [(2, (.int .i64))], [], []⟩)) (.seq .no (.seq .no (.seq (.seq .no (.seq (.seq (.join (.one .nrm ⟨[6, 7, 8], [(5, .ref 5 [] 0)], [(33, .bool)], [(5, 201, (.st qY1))], []⟩) .no) .no) .no)) .no))))) .no))), [.val (.sl (.st qY1))], [(.int .i64)], [.tmp 2]⟩
noncomputable def table_columns_r := table_columns_rRun.F
noncomputable def table_columns_rEnt : Nat × Go.Lf.Entry := (153, ⟨[.val (.sl (.st qY1))], [(.int .i64)], table_columns_r⟩)
theorem table_columns_r_ok : Go.Lf.EntryOk Go.Proofs.Tryz.prog GG 153 table_columns_rEnt.2 := Go.Lf.run_ok table_columns_rRun Go.Proofs.Tryz.f153 (by kernel_rfl) ⟨TysR_ok, Go.Lf.FnsOk.look .nil, Go.Lf.IpsOk.look .nil, TysREq_ok, TysRIm_ok, Go.Lf.IvsOk.look .nil, Go.Lf.FxsOk.look .nil⟩ (by kernel_rfl) (by kernel_rfl) (by kernel_rfl) (by kernel_rfl) (by kernel_rfl) (by kernel_rfl) (by kernel_rfl)
noncomputable def table_plain_rRun : Go.Lf.RunS := ⟨⟨3, TysR, [], [], [], [], [], TysREq, [], some 4000, TysRIm, []⟩, (Go.Proofs.Tryz.f154.body).getD .skip, .no, [], [(.st qY21)], [.cell 0 78]⟩
noncomputable def table_plain_r := table_plain_rRun.F
noncomputable def table_plain_rEnt : Nat × Go.Lf.Entry := (154, ⟨[], [(.st qY21)], table_plain_r⟩)
theorem table_plain_r_ok : Go.Lf.EntryOk Go.Proofs.Tryz.prog GG 154 table_plain_rEnt.2 := Go.Lf.run_ok table_plain_rRun Go.Proofs.Tryz.f154 (by kernel_rfl) ⟨TysR_ok, Go.Lf.FnsOk.look .nil, Go.Lf.IpsOk.look .nil, TysREq_ok, TysRIm_ok, Go.Lf.IvsOk.look .nil, Go.Lf.FxsOk.look .nil⟩ (by kernel_rfl) (by kernel_rfl) (by kernel_rfl) (by kernel_rfl) (by kernel_rfl) (by kernel_rfl) (by kernel_rfl)
noncomputable def table_Row_rRun : Go.Lf.RunS := ⟨⟨116, TysR, [table_Fill_rEnt, table_Wide_rEnt, table_columns_rEnt, table_plain_rEnt], [4, 7, 13, 15, 46, 59, 92, 96, 110, 115], [], [(4, qY26), (7, qY29), (13, qY26), (15, (.rw 78 (.st qY21))), (59, qY29), (92, (.rw 78 (.st qY21))), (96, (.rw 78 (.st qY21))), (110, qY26), (115, qY26)], [], TysREq, [], some 4000, TysRIm, []⟩, (Go.Proofs.Tryz.f123.body).getD .skip, (.seq .no (.seq (.seq (.join (.one .nrm ⟨[0, 1], [], [(33, .bool)], [], []⟩) .no) .no) (.seq .no (.seq .no (.seq .no (.seq (.seq .no (.loop ⟨[0, 39, 40], [], [(41, (.int .i64)), (8, (.int .i64)), (7, qY29)], [], []⟩ (.more (.ext 0) ⟨[0], [], [(7, qY29), (8, (.int .i64))], [], []⟩ (.one .ret ⟨[], [], [(4, qY26), (5, (.int .i64))], [], []⟩)) .no)) (.seq .no (.seq (.seq .no (.loop ⟨[0, 68], [], [(69, (.int .i64)), (13, qY26), (7, qY29)], [], []⟩ (.one (.ext 2) ⟨[], [], [(13, qY26)], [], []⟩) (.seq .no (.seq .no (.seq (.seq .no (.seq .no (.seq .no (.seq (.seq .no (.loop ⟨[14, 0, 72, 68, 69, 73], [], [(74, (.int .i64)), (16, (.int .i64)), (15, (.rw 78 (.st qY21))), (7, qY29), (13, qY26)], [], []⟩ (.one (.ext 4) ⟨[0, 68, 69], [], [(7, qY29), (15, (.rw 78 (.st qY21))), (13, qY26)], [], []⟩) (.seq .no (.seq .no (.seq (.join (.one .nrm ⟨[14, 0, 72, 68, 69, 73, 74], [], [(16, (.int .i64)), (15, (.rw 78 (.st qY21))), (7, qY29), (13, qY26)], [], []⟩) (.seq .no (.seq .no (.seq (.loop ⟨[14, 0, 72, 68, 69, 73, 74, 18, 17], [], [(16, (.int .i64)), (15, (.rw 78 (.st qY21))), (7, qY29), (13, qY26)], [], []⟩ (.one (.ext 6) ⟨[14, 0, 72, 68, 69, 73, 74, 18], [], [(7, qY29), (13, qY26), (16, (.int .i64)), (15, (.rw 78 (.st qY21)))], [], []⟩) .no) .no)))) .no))))) .no)))) .no))))) .no)))))))), [.val (.sl (.st qY1)), .val (.sl (.sl (.st qY21)))], [qY26, (.int .i64)], [.tmp 4, .tmp 5]⟩
noncomputable def table_Row_r := table_Row_rRun.F
noncomputable def table_Row_rEnt : Nat × Go.Lf.Entry := (123, ⟨[.val (.sl (.st qY1)), .val (.sl (.sl (.st qY21)))], [qY26, (.int .i64)], table_Row_r⟩)
theorem table_Row_r_ok : Go.Lf.EntryOk Go.Proofs.Tryz.prog GG 123 table_Row_rEnt.2 := Go.Lf.run_ok table_Row_rRun Go.Proofs.Tryz.f123 (by kernel_rfl) ⟨TysR_ok, Go.Lf.FnsOk.look (.con table_Fill_r_ok (.con table_Wide_r_ok (.con table_columns_r_ok (.con table_plain_r_ok .nil)))), Go.Lf.IpsOk.look .nil, TysREq_ok, TysRIm_ok, Go.Lf.IvsOk.look .nil, Go.Lf.FxsOk.look .nil⟩ (by kernel_rfl) (by kernel_rfl) (by kernel_rfl) (by kernel_rfl) (by kernel_rfl) (by kernel_rfl) (by kernel_rfl)
noncomputable def vm_Machine__row_rRun : Go.Lf.RunS := ⟨⟨39, TysR, [vm_Machine__tell_rEnt, table_Row_rEnt], [], [], [], [], TysREq, [], some 4000, TysRIm, []⟩, (Go.Proofs.Tryz.f85.body).getD .skip, (.seq .no (.seq (.soup 12) (.seq (.seq .no (.loop ⟨[23, 24], [(0, .ref 0 [] 0)], [(25, (.int .i64))], [(0, 86, (.st qY112))], []⟩ (.one (.ext 0) ⟨[], [(0, .ref 0 [] 0)], [], [(0, 86, (.st qY112))], []⟩) .no)) .no))), [.obj 86 (.st qY112) (.st qY112) []], [], []⟩
noncomputable def vm_Machine__row_r := vm_Machine__row_rRun.F
noncomputable def vm_Machine__row_rEnt : Nat × Go.Lf.Entry := (85, ⟨[.obj 86 (.st qY112) (.st qY112) []], [], vm_Machine__row_r⟩)
theorem vm_Machine__row_r_ok : Go.Lf.EntryOk Go.Proofs.Tryz.prog GG 85 vm_Machine__row_rEnt.2 := Go.Lf.run_ok vm_Machine__row_rRun Go.Proofs.Tryz.f85 (by kernel_rfl) ⟨TysR_ok, Go.Lf.FnsOk.look (.con vm_Machine__tell_r_ok (.con table_Row_r_ok .nil)), Go.Lf.IpsOk.look .nil, TysREq_ok, TysRIm_ok, Go.Lf.IvsOk.look .nil, Go.Lf.FxsOk.look .nil⟩ (by kernel_rfl) (by kernel_rfl) (by kernel_rfl) (by kernel_rfl) (by kernel_rfl) (by kernel_rfl) (by kernel_rfl)
noncomputable def vm_Machine__Stack_rRun : Go.Lf.RunS := ⟨⟨15, TysR, [vm_Machine__is_rEnt, clone_FEnt], [2], [], [(2, (.rw 76 qY19)), (14, (.mr 76 qY19)), (8000014, .unit)], [], TysREq, [], some 4000, TysRIm, []⟩, (Go.Proofs.Tryz.f25.body).getD .skip, (.seq .no (.seq .no (.seq (.draw 8) .no))), [.obj 86 (.st qY112) (.st qY112) []], [(.mr 76 qY19)], [.tmp 2]⟩
noncomputable def vm_Machine__Stack_r := vm_Machine__Stack_rRun.F
noncomputable def vm_Machine__Stack_rEnt : Nat × Go.Lf.Entry := (25, ⟨[.obj 86 (.st qY112) (.st qY112) []], [(.mr 76 qY19)], vm_Machine__Stack_r⟩)
theorem vm_Machine__Stack_r_ok : Go.Lf.EntryOk Go.Proofs.Tryz.prog GG 25 vm_Machine__Stack_rEnt.2 := Go.Lf.run_ok vm_Machine__Stack_rRun Go.Proofs.Tryz.f25 (by kernel_rfl) ⟨TysR_ok, Go.Lf.FnsOk.look (.con vm_Machine__is_r_ok (.con clone_F_ok .nil)), Go.Lf.IpsOk.look .nil, TysREq_ok, TysRIm_ok, Go.Lf.IvsOk.look .nil, Go.Lf.FxsOk.look .nil⟩ (by kernel_rfl) (by kernel_rfl) (by kernel_rfl) (by kernel_rfl) (by kernel_rfl) (by kernel_rfl) (by kernel_rfl)
noncomputable def vm_Machine__Lines_rRun : Go.Lf.RunS := ⟨⟨11, TysR, [vm_Machine__is_rEnt], [], [], [], [], TysREq, [], some 4000, TysRIm, []⟩, (Go.Proofs.Tryz.f26.body).getD .skip, .no, [.val (.ptr (.st qY111))], [(.int .i64)], [.tmp 2]⟩
noncomputable def vm_Machine__Lines_r := vm_Machine__Lines_rRun.F
noncomputable def vm_Machine__Lines_rEnt : Nat × Go.Lf.Entry := (26, ⟨[.val (.ptr (.st qY111))], [(.int .i64)], vm_Machine__Lines_r⟩)
theorem vm_Machine__Lines_r_ok : Go.Lf.EntryOk Go.Proofs.Tryz.prog GG 26 vm_Machine__Lines_rEnt.2 := Go.Lf.run_ok vm_Machine__Lines_rRun Go.Proofs.Tryz.f26 (by kernel_rfl) ⟨TysR_ok, Go.Lf.FnsOk.look (.con vm_Machine__is_r_ok .nil), Go.Lf.IpsOk.look .nil, TysREq_ok, TysRIm_ok, Go.Lf.IvsOk.look .nil, Go.Lf.FxsOk.look .nil⟩ (by kernel_rfl) (by kernel_rfl) (by kernel_rfl) (by kernel_rfl) (by kernel_rfl) (by kernel_rfl) (by kernel_rfl)
noncomputable def vm_Machine__Halted_rRun : Go.Lf.RunS := ⟨⟨11, TysR, [vm_Machine__is_rEnt], [], [], [], [], TysREq, [], some 4000, TysRIm, []⟩, (Go.Proofs.Tryz.f22.body).getD .skip, (.seq .no (.seq (.join (.one .nrm ⟨[], [], [(2, .bool)], [], []⟩) .no) .no)), [.val (.ptr (.st qY111))], [.bool], [.tmp 2]⟩
noncomputable def vm_Machine__Halted_r := vm_Machine__Halted_rRun.F
noncomputable def vm_Machine__Halted_rEnt : Nat × Go.Lf.Entry := (22, ⟨[.val (.ptr (.st qY111))], [.bool], vm_Machine__Halted_r⟩)
theorem vm_Machine__Halted_r_ok : Go.Lf.EntryOk Go.Proofs.Tryz.prog GG 22 vm_Machine__Halted_rEnt.2 := Go.Lf.run_ok vm_Machine__Halted_rRun Go.Proofs.Tryz.f22 (by kernel_rfl) ⟨TysR_ok, Go.Lf.FnsOk.look (.con vm_Machine__is_r_ok .nil), Go.Lf.IpsOk.look .nil, TysREq_ok, TysRIm_ok, Go.Lf.IvsOk.look .nil, Go.Lf.FxsOk.look .nil⟩ (by kernel_rfl) (by kernel_rfl) (by kernel_rfl) (by kernel_rfl) (by kernel_rfl) (by kernel_rfl) (by kernel_rfl)
noncomputable def vm_Machine__Line_rRun : Go.Lf.RunS := ⟨⟨28, TysR, [vm_Machine__is_rEnt, clone_GEnt], [4], [], [(4, (.rw 78 (.st qY21)))], [], TysREq, [], some 4000, TysRIm, []⟩, (Go.Proofs.Tryz.f19.body).getD .skip, (.seq .no (.seq .no (.seq (.seq (.join (.one .nrm ⟨[1], [(0, .ref 0 [] 0)], [(19, .bool)], [(0, 86, (.st qY112))], []⟩) .no) .no) .no))), [.obj 86 (.st qY112) (.st qY112) [], .val (.int .i64)], [(.rw 78 (.st qY21)), (.int .i64)], [.tmp 4, .tmp 5]⟩
noncomputable def vm_Machine__Line_r := vm_Machine__Line_rRun.F
noncomputable def vm_Machine__Line_rEnt : Nat × Go.Lf.Entry := (19, ⟨[.obj 86 (.st qY112) (.st qY112) [], .val (.int .i64)], [(.rw 78 (.st qY21)), (.int .i64)], vm_Machine__Line_r⟩)
theorem vm_Machine__Line_r_ok : Go.Lf.EntryOk Go.Proofs.Tryz.prog GG 19 vm_Machine__Line_rEnt.2 := Go.Lf.run_ok vm_Machine__Line_rRun Go.Proofs.Tryz.f19 (by kernel_rfl) ⟨TysR_ok, Go.Lf.FnsOk.look (.con vm_Machine__is_r_ok (.con clone_G_ok .nil)), Go.Lf.IpsOk.look .nil, TysREq_ok, TysRIm_ok, Go.Lf.IvsOk.look .nil, Go.Lf.FxsOk.look .nil⟩ (by kernel_rfl) (by kernel_rfl) (by kernel_rfl) (by kernel_rfl) (by kernel_rfl) (by kernel_rfl) (by kernel_rfl)
end Go.Fn
open Go Go.Lf
set_option maxRecDepth 10000
namespace Go.Fn
abbrev rY0 : Go.Lf.Ty := (.pr .str (.pr (.sl (.int .i64)) .unit))
abbrev rY1 : Go.Lf.Ty := (.pr (.int .i64) (.pr (.int .i64) .unit))
abbrev rY2 : Go.Lf.Ty := (.pr (.int .i32) (.pr (.int .i32) .unit))
abbrev rY3 : Go.Lf.Ty := (.pr (.int .i64) (.pr (.sl (.int .i64)) .unit))
abbrev rY4 : Go.Lf.Ty := (.st (.pr .bool (.pr (.int .i64) (.pr .str .unit))))
abbrev rY5 : Go.Lf.Ty := (.st (.pr (.int .i64) rY1))
abbrev rY6 : Go.Lf.Ty := (.pr (.int .i64) (.pr (.int .i64) rY0))
abbrev rY7 : Go.Lf.Ty := (.pr (.st rY1) (.pr (.int .i64) .unit))
abbrev rY8 : Go.Lf.Ty := (.pr (.int .i64) (.pr (.int .i64) rY1))
abbrev rY9 : Go.Lf.Ty := (.pr (.int .i64) (.pr (.st rY1) .unit))
abbrev rY10 : Go.Lf.Ty := (.pr (.int .i64) (.pr (.int .i64) rY3))
abbrev rY11 : Go.Lf.Ty := (.st (.pr (.int .i64) rY9))
abbrev rY12 : Go.Lf.Ty := (.st (.pr (.int .i64) rY8))
abbrev rY13 : Go.Lf.Ty := (.st (.pr .str (.pr .str (.pr rY5 .unit))))
abbrev rY14 : Go.Lf.Ty := (.pr .str (.pr (.int .i64) rY7))
abbrev rY15 : Go.Lf.Ty := (.st (.pr (.int .i64) rY10))
abbrev rY16 : Go.Lf.Ty := (.rw 50 (.sl (.st rY14)))
abbrev rY17 : Go.Lf.Ty := (.pr (.sl (.sl (.st rY14))) (.pr .bool .unit))
abbrev rY18 : Go.Lf.Ty := (.pr rY16 (.pr .bool .unit))
abbrev rY19 : Go.Lf.Ty := (.pr (.rw 80 (.st rY1)) rY18)
abbrev rY20 : Go.Lf.Ty := (.pr rY11 (.pr rY11 .unit))
abbrev rY21 : Go.Lf.Ty := (.pr .bool (.pr (.int .i64) rY19))
abbrev rY22 : Go.Lf.Ty := (.pr (.int .i64) (.pr .bool (.pr (.int .i64) (.pr (.sl (.st rY1)) rY17))))
abbrev rY23 : Go.Lf.Ty := (.pr .str (.pr (.int .i64) rY21))
abbrev rY24 : Go.Lf.Ty := (.pr .bool (.pr (.int .i64) rY23))
abbrev rY25 : Go.Lf.Ty := (.pr (.sl (.st rY1)) (.pr .bool (.pr .bool (.pr (.int .i64) (.pr .str rY22)))))
abbrev rY26 : Go.Lf.Ty := (.pr (.sl (.st rY1)) (.pr .bool rY24))
abbrev rY27 : Go.Lf.Ty := (.pr rY11 (.pr rY11 rY20))
abbrev rY28 : Go.Lf.Ty := (.pr rY4 (.pr (.sl rY11) (.pr (.sl (.int .i64)) (.pr (.sl (.st rY1)) (.pr (.int .i64) (.pr (.sl (.st rY14)) (.pr (.sl (.st rY1)) rY17)))))))
abbrev rY29 : Go.Lf.Ty := (.pr (.rw 78 (.st rY14)) (.pr rY16 rY26))
abbrev rY30 : Go.Lf.Ty := (.pr rY11 (.pr rY11 rY27))
abbrev rY31 : Go.Lf.Ty := (.pr rY12 (.pr rY12 (.pr rY12 (.pr rY12 (.pr rY12 (.pr rY12 .unit))))))
abbrev rY32 : Go.Lf.Ty := (.pr (.sl (.st rY1)) (.pr (.sl (.st rY14)) (.pr (.sl (.sl (.st rY14))) rY25)))
abbrev rY33 : Go.Lf.Ty := (.pr (.mr 125 (.st rY1)) rY29)
abbrev rY34 : Go.Lf.Ty := (.pr rY11 (.pr rY11 rY30))
abbrev rY35 : Go.Lf.Ty := (.pr (.sl rY15) (.pr (.sl (.st rY6)) (.pr (.int .i64) (.pr .bool (.pr (.sl (.sl (.st rY14))) (.pr .bool (.pr (.int .i64) rY28)))))))
abbrev rY36 : Go.Lf.Ty := (.pr rY11 (.pr rY11 rY34))
abbrev rY37 : Go.Lf.Ty := (.pr rY11 (.pr rY11 rY36))
abbrev rY38 : Go.Lf.Ty := (.pr rY12 (.pr rY12 (.pr rY12 (.pr rY12 (.pr rY12 (.pr rY12 rY31))))))
abbrev rY39 : Go.Lf.Ty := (.pr rY11 (.pr rY11 rY37))
abbrev rY40 : Go.Lf.Ty := (.pr rY11 (.pr rY11 rY39))
abbrev rY41 : Go.Lf.Ty := (.pr rY11 (.pr rY11 rY40))
abbrev rY42 : Go.Lf.Ty := (.pr rY12 (.pr rY12 (.pr rY12 (.pr rY12 (.pr rY12 (.pr rY12 rY38))))))
abbrev rY43 : Go.Lf.Ty := (.pr rY11 (.pr rY11 rY41))
abbrev rY44 : Go.Lf.Ty := (.pr rY11 (.pr rY11 rY43))
abbrev rY45 : Go.Lf.Ty := (.pr rY11 (.pr rY11 rY44))
abbrev rY46 : Go.Lf.Ty := (.pr rY12 (.pr rY12 (.pr rY12 (.pr rY12 (.pr rY12 (.pr rY12 rY42))))))
abbrev rY47 : Go.Lf.Ty := (.pr rY11 (.pr rY11 rY45))
abbrev rY48 : Go.Lf.Ty := (.pr rY11 (.pr rY11 rY47))
abbrev rY49 : Go.Lf.Ty := (.pr rY11 (.pr rY11 rY48))
abbrev rY50 : Go.Lf.Ty := (.pr rY12 (.pr rY12 (.pr rY12 (.pr rY12 (.pr rY12 (.pr rY12 rY46))))))
abbrev rY51 : Go.Lf.Ty := (.pr rY11 (.pr rY11 rY49))
abbrev rY52 : Go.Lf.Ty := (.pr (.st (.pr rY12 (.pr rY12 rY50))) (.pr (.int .i64) (.pr (.int .i64) (.pr (.int .i64) (.pr (.int .i64) (.pr (.int .i64) (.pr .str rY1)))))))
abbrev rY53 : Go.Lf.Ty := (.pr (.st rY51) (.pr (.int .i64) rY33))
abbrev rY54 : Go.Lf.Ty := (.pr (.int .i64) (.pr .bool (.pr (.st rY51) (.pr (.int .i64) rY32))))
abbrev rY55 : Go.Lf.Ty := (.pr (.int .i64) (.pr .bool rY53))
abbrev rY56 : Go.Lf.Ty := (.pr (.int .i64) (.pr (.int .i64) rY55))
abbrev rY57 : Go.Lf.Ty := (.pr (.sl rY15) (.pr .str rY56))
abbrev rY58 : Go.Lf.Ty := (.pr (.sl rY5) (.pr (.sl rY15) (.pr .str (.pr (.int .i64) (.pr (.int .i64) rY54)))))
abbrev rY59 : Go.Lf.Ty := (.pr (.int .i64) (.pr (.sl rY5) rY57))
def TysQ : List (Nat × Go.Lf.TyI) := [(2, ⟨(.int .i64), 0, 0⟩),
 (3, ⟨(.int .i64), 0, 0⟩),
 (4, ⟨.bool, 0, 0⟩),
 (5, ⟨(.int .u8), 0, 0⟩),
 (6, ⟨(.int .u8), 0, 0⟩),
 (7, ⟨(.st (.pr (.int .i64) (.pr (.int .i64) (.pr .bool (.pr (.int .u8) .unit))))), 0, 0⟩),
 (8, ⟨(.st (.pr (.int .i64) (.pr (.int .i64) (.pr .bool (.pr (.int .u8) .unit))))), 0, 0⟩),
 (9, ⟨.str, 0, 0⟩),
 (10, ⟨.str, 0, 0⟩),
 (11, ⟨.str, 0, 0⟩),
 (12, ⟨(.int .u64), 0, 0⟩),
 (13, ⟨(.st (.pr .str (.pr (.int .u64) .unit))), 0, 0⟩),
 (14, ⟨(.st (.pr .str (.pr (.int .u64) .unit))), 0, 0⟩),
 (21, ⟨(.int .i32), 0, 0⟩),
 (22, ⟨(.sl rY13), 72, 56⟩),
 (23, ⟨(.sl (.int .u8)), 5, 1⟩),
 (24, ⟨(.sl (.sl (.st rY14))), 50, 24⟩),
 (25, ⟨(.sl (.st rY8)), 93, 32⟩),
 (26, ⟨(.sl (.st rY1)), 80, 16⟩),
 (27, ⟨(.st (.pr (.sl (.sl (.st rY14))) (.pr (.sl (.st rY8)) (.pr (.sl (.st rY1)) (.pr .bool .unit))))), 0, 0⟩),
 (28, ⟨(.st (.pr (.sl (.sl (.st rY14))) (.pr (.sl (.st rY8)) (.pr (.sl (.st rY1)) (.pr .bool .unit))))), 0, 0⟩),
 (29, ⟨(.int .i64), 0, 0⟩),
 (44, ⟨(.sl rY15), 64, 56⟩),
 (45, ⟨(.sl (.st rY6)), 108, 56⟩),
 (46, ⟨rY4, 0, 0⟩),
 (47, ⟨rY4, 0, 0⟩),
 (48, ⟨(.sl rY11), 76, 32⟩),
 (49, ⟨(.sl (.int .i64)), 3, 8⟩),
 (50, ⟨(.sl (.st rY14)), 78, 48⟩),
 (51, ⟨(.sl (.st rY1)), 201, 16⟩),
 (52, ⟨(.st (.pr (.sl rY13) (.pr (.int .i64) rY35))), 0, 0⟩),
 (53, ⟨(.st (.pr (.sl rY13) (.pr (.int .i64) rY35))), 0, 0⟩),
 (62, ⟨(.int .i64), 0, 0⟩),
 (63, ⟨rY15, 0, 0⟩),
 (64, ⟨rY15, 0, 0⟩),
 (69, ⟨rY5, 0, 0⟩),
 (70, ⟨rY5, 0, 0⟩),
 (71, ⟨rY13, 0, 0⟩),
 (72, ⟨rY13, 0, 0⟩),
 (73, ⟨(.st rY1), 0, 0⟩),
 (74, ⟨(.st rY1), 0, 0⟩),
 (75, ⟨rY11, 0, 0⟩),
 (76, ⟨rY11, 0, 0⟩),
 (77, ⟨(.st rY14), 0, 0⟩),
 (78, ⟨(.st rY14), 0, 0⟩),
 (79, ⟨(.st rY1), 0, 0⟩),
 (80, ⟨(.st rY1), 0, 0⟩),
 (82, ⟨(.sl rY5), 70, 24⟩),
 (83, ⟨(.st rY51), 76, 32⟩),
 (84, ⟨(.sl (.st rY1)), 125, 16⟩),
 (85, ⟨(.st (.pr (.int .i64) rY58)), 0, 0⟩),
 (86, ⟨(.st (.pr (.int .i64) rY58)), 0, 0⟩),
 (92, ⟨(.st rY8), 0, 0⟩),
 (93, ⟨(.st rY8), 0, 0⟩),
 (107, ⟨(.st rY6), 0, 0⟩),
 (108, ⟨(.st rY6), 0, 0⟩),
 (124, ⟨(.st rY1), 0, 0⟩),
 (125, ⟨(.st rY1), 0, 0⟩),
 (132, ⟨rY12, 0, 0⟩),
 (133, ⟨rY12, 0, 0⟩),
 (150, ⟨(.sl (.st (.pr .str rY1))), 153, 32⟩),
 (152, ⟨(.st (.pr .str rY1)), 0, 0⟩),
 (153, ⟨(.st (.pr .str rY1)), 0, 0⟩),
 (164, ⟨(.int .u64), 0, 0⟩),
 (167, ⟨(.int .u64), 0, 0⟩),
 (171, ⟨rY12, 0, 0⟩),
 (172, ⟨rY12, 0, 0⟩),
 (173, ⟨(.st (.pr rY12 (.pr rY12 rY50))), 172, 32⟩),
 (174, ⟨(.st rY52), 0, 0⟩),
 (175, ⟨(.st rY52), 0, 0⟩),
 (180, ⟨(.sl .bool), 4, 1⟩),
 (182, ⟨(.st (.pr .bool (.pr (.sl .bool) (.pr (.sl (.st (.pr .bool rY8))) (.pr .bool .unit))))), 0, 0⟩),
 (191, ⟨(.sl (.st (.pr .str rY1))), 193, 32⟩),
 (193, ⟨(.st (.pr .str rY1)), 0, 0⟩),
 (200, ⟨(.st rY1), 0, 0⟩),
 (201, ⟨(.st rY1), 0, 0⟩),
 (216, ⟨(.st (.pr (.sl (.int .u8)) rY1)), 0, 0⟩),
 (229, ⟨(.st (.pr (.int .i64) (.pr (.sl (.sl (.st rY14))) (.pr (.sl (.st rY14)) (.pr (.int .i64) (.pr (.sl (.st rY14)) .unit)))))), 0, 0⟩),
 (233, ⟨(.sl (.sl (.sl (.st rY14)))), 24, 24⟩),
 (240, ⟨(.st (.pr .bool rY8)), 0, 0⟩),
 (245, ⟨(.st rY2), 21, 2⟩),
 (246, ⟨(.st (.pr (.st rY2) (.pr (.st rY2) (.pr (.st rY2) (.pr (.st rY2) (.pr (.st rY2) (.pr (.st rY2) (.pr (.st rY2) (.pr (.st rY2) (.pr (.st rY2) (.pr (.st rY2) (.pr (.st rY2) (.pr (.st rY2) (.pr (.st rY2) .unit)))))))))))))), 245, 13⟩),
 (38, ⟨(.ptr (.st (.pr (.int .i64) rY58))), 0, 0⟩),
 (113, ⟨(.ptr rY11), 0, 0⟩),
 (165, ⟨(.ptr (.st (.pr (.sl (.int .u8)) rY1))), 0, 0⟩),
 (198, ⟨(.ptr (.st rY1)), 0, 0⟩),
 (220, ⟨(.ptr rY12), 0, 0⟩),
 (227, ⟨(.ptr (.st (.pr (.int .i64) (.pr (.sl (.sl (.st rY14))) (.pr (.sl (.st rY14)) (.pr (.int .i64) (.pr (.sl (.st rY14)) .unit))))))), 0, 0⟩)]
theorem TysQ_ok : ∀ id i, Go.Lf.look TysQ id = some i → Go.Lf.TyOk Go.Proofs.Tryz.prog id i := Go.Lf.tysB_ok (by kernel_rfl)
def TysQEq : List (Nat × Go.Lf.Ty) := []
theorem TysQEq_ok : ∀ id t, Go.Lf.look TysQEq id = some t → Go.Lf.eqTop Go.Proofs.Tryz.prog id t = true := Go.Lf.eqsB_ok (by kernel_rfl)
def TysQIm : List (Nat × List (Nat × Bool)) := []
theorem TysQIm_ok : ∀ a l, Go.Lf.look TysQIm a = some l → Go.Lf.ImOk Go.Proofs.Tryz.prog a l := Go.Lf.imsB_ok (by kernel_rfl)
noncomputable def vm_Machine__block_rRun : Go.Lf.RunS := ⟨⟨166, TysQ, [vm_Machine__top_rEnt, vm_Machine__push_rEnt, vm_Machine__styled_rEnt, vm_Machine__pop_rEnt, vm_Machine__tell_rEnt, vm_Machine__end_rEnt, vm_Machine__settle_rEnt, vm_Machine__mark_rEnt, table_Columns_rEnt, vm_Machine__row_rEnt], [58, 163], [], [(58, (.rw 125 (.st rY1)))], [], TysQEq, [], some 4000, TysQIm, []⟩, (Go.Proofs.Tryz.f42.body).getD .skip, (.seq .no (.seq .no (.seq .no (.cnd (.seq (.join (.one .nrm ⟨[], [(0, .ref 0 [] 0), (3, .ref 3 [] 0)], [], [(0, 86, (.st rY59)), (3, 64, rY15)], []⟩) (.seq (.join (.one .nrm ⟨[], [(0, .ref 0 [] 0), (3, .ref 3 [] 0)], [(26, .bool)], [(0, 86, (.st rY59)), (3, 64, rY15)], []⟩) .no) .no)) (.seq .no (.draw 11))) (.seq .no (.cnd .no (.seq .no (.cnd (.seq .no (.seq (.soup 13) .no)) (.seq .no (.cnd .no (.seq .no (.cnd (.seq (.soup 11) .no) (.seq .no (.cnd (.seq .no (.seq .no (.draw 16))) .no)))))))))))))), [.obj 86 (.st rY59) (.st rY59) [], .val rY15], [], []⟩
noncomputable def vm_Machine__block_r := vm_Machine__block_rRun.F
noncomputable def vm_Machine__block_rEnt : Nat × Go.Lf.Entry := (42, ⟨[.obj 86 (.st rY59) (.st rY59) [], .val rY15], [], vm_Machine__block_r⟩)
theorem vm_Machine__block_r_ok : Go.Lf.EntryOk Go.Proofs.Tryz.prog GG 42 vm_Machine__block_rEnt.2 := Go.Lf.run_ok vm_Machine__block_rRun Go.Proofs.Tryz.f42 (by kernel_rfl) ⟨TysQ_ok, Go.Lf.FnsOk.look (.con vm_Machine__top_r_ok (.con vm_Machine__push_r_ok (.con vm_Machine__styled_r_ok (.con vm_Machine__pop_r_ok (.con vm_Machine__tell_r_ok (.con vm_Machine__end_r_ok (.con vm_Machine__settle_r_ok (.con vm_Machine__mark_r_ok (.con table_Columns_r_ok (.con vm_Machine__row_r_ok .nil)))))))))), Go.Lf.IpsOk.look .nil, TysQEq_ok, TysQIm_ok, Go.Lf.IvsOk.look .nil, Go.Lf.FxsOk.look .nil⟩ (by kernel_rfl) (by kernel_rfl) (by kernel_rfl) (by kernel_rfl) (by kernel_rfl) (by kernel_rfl) (by kernel_rfl)
noncomputable def vm_Machine__Step_rRun : Go.Lf.RunS := ⟨⟨55, TysQ, [vm_Machine__is_rEnt, vm_Machine__inline_rEnt, vm_Machine__block_rEnt], [], [], [], [], TysQEq, [], some 4000, TysQIm, []⟩, (Go.Proofs.Tryz.f16.body).getD .skip, (.seq .no (.seq .no (.seq (.soup 11) .no))), [.obj 86 (.st rY59) (.st rY59) []], [(.int .i64)], [.tmp 2]⟩
noncomputable def vm_Machine__Step_r := vm_Machine__Step_rRun.F
noncomputable def vm_Machine__Step_rEnt : Nat × Go.Lf.Entry := (16, ⟨[.obj 86 (.st rY59) (.st rY59) []], [(.int .i64)], vm_Machine__Step_r⟩)
theorem vm_Machine__Step_r_ok : Go.Lf.EntryOk Go.Proofs.Tryz.prog GG 16 vm_Machine__Step_rEnt.2 := Go.Lf.run_ok vm_Machine__Step_rRun Go.Proofs.Tryz.f16 (by kernel_rfl) ⟨TysQ_ok, Go.Lf.FnsOk.look (.con vm_Machine__is_r_ok (.con vm_Machine__inline_r_ok (.con vm_Machine__block_r_ok .nil))), Go.Lf.IpsOk.look .nil, TysQEq_ok, TysQIm_ok, Go.Lf.IvsOk.look .nil, Go.Lf.FxsOk.look .nil⟩ (by kernel_rfl) (by kernel_rfl) (by kernel_rfl) (by kernel_rfl) (by kernel_rfl) (by kernel_rfl) (by kernel_rfl)
noncomputable def vm_run_rRun : Go.Lf.RunS := ⟨⟨17, TysQ, [vm_Machine__Step_rEnt], [], [], [], [], TysQEq, [], some 4000, TysQIm, []⟩, (Go.Proofs.Tryz.f59.body).getD .skip, (.seq .no (.seq .no (.seq (.loop ⟨[1], [(0, .clo 16 1 [(false, 0, [], 0)])], [(5, (.int .i64))], [(0, 86, (.st rY59))], []⟩ (.one (.ext 0) ⟨[], [(0, .clo 16 1 [(false, 0, [], 0)])], [(5, (.int .i64))], [(0, 86, (.st rY59))], []⟩) (.seq (.seq (.join (.one .nrm ⟨[1, 5], [(0, .clo 16 1 [(false, 0, [], 0)])], [(13, .bool)], [(0, 86, (.st rY59))], []⟩) .no) .no) .no)) .no))), [.obj 86 (.st rY59) (.st rY59) [] (.bnd 16), .val (.int .i64)], [(.int .i64)], [.tmp 4]⟩
noncomputable def vm_run_r := vm_run_rRun.F
noncomputable def vm_run_rEnt : Nat × Go.Lf.Entry := (59, ⟨[.obj 86 (.st rY59) (.st rY59) [] (.bnd 16), .val (.int .i64)], [(.int .i64)], vm_run_r⟩)
theorem vm_run_r_ok : Go.Lf.EntryOk Go.Proofs.Tryz.prog GG 59 vm_run_rEnt.2 := Go.Lf.run_ok vm_run_rRun Go.Proofs.Tryz.f59 (by kernel_rfl) ⟨TysQ_ok, Go.Lf.FnsOk.look (.con vm_Machine__Step_r_ok .nil), Go.Lf.IpsOk.look .nil, TysQEq_ok, TysQIm_ok, Go.Lf.IvsOk.look .nil, Go.Lf.FxsOk.look .nil⟩ (by kernel_rfl) (by kernel_rfl) (by kernel_rfl) (by kernel_rfl) (by kernel_rfl) (by kernel_rfl) (by kernel_rfl)
noncomputable def vm_Machine__Run_rRun : Go.Lf.RunS := ⟨⟨9, TysQ, [vm_Machine__Step_rEnt, vm_run_rEnt], [], [], [], [], TysQEq, [], some 4000, TysQIm, []⟩, (Go.Proofs.Tryz.f28.body).getD .skip, .no, [.obj 86 (.st rY59) (.st rY59) [], .val (.int .i64)], [(.int .i64)], [.tmp 4]⟩
noncomputable def vm_Machine__Run_r := vm_Machine__Run_rRun.F
noncomputable def vm_Machine__Run_rEnt : Nat × Go.Lf.Entry := (28, ⟨[.obj 86 (.st rY59) (.st rY59) [], .val (.int .i64)], [(.int .i64)], vm_Machine__Run_r⟩)
theorem vm_Machine__Run_r_ok : Go.Lf.EntryOk Go.Proofs.Tryz.prog GG 28 vm_Machine__Run_rEnt.2 := Go.Lf.run_ok vm_Machine__Run_rRun Go.Proofs.Tryz.f28 (by kernel_rfl) ⟨TysQ_ok, Go.Lf.FnsOk.look (.con vm_Machine__Step_r_ok (.con vm_run_r_ok .nil)), Go.Lf.IpsOk.look .nil, TysQEq_ok, TysQIm_ok, Go.Lf.IvsOk.look .nil, Go.Lf.FxsOk.look .nil⟩ (by kernel_rfl) (by kernel_rfl) (by kernel_rfl) (by kernel_rfl) (by kernel_rfl) (by kernel_rfl) (by kernel_rfl)
noncomputable def foliolaw18_awake_rRun : Go.Lf.RunS := ⟨⟨101, TysQ, [vm_New_rEnt, vm_Machine__Step_rEnt, vm_Machine__Line_rEnt, vm_Machine__Halted_rEnt, vm_Machine__Stack_rEnt, vm_Machine__Lines_rEnt, vm_Machine__Run_rEnt], [6, 9, 1], [], [(7000021, .dead 1 .unit)], [], TysQEq, [], some 4000, TysQIm, []⟩, (Go.Proofs.Tryz.f13.body).getD .skip, (.seq .no (.seq .no (.seq (.seq (.join (.one .nrm ⟨[], [(1, .ref 1 [] 0)], [(21, .bool)], [(1, 86, (.st rY59))], []⟩) (.bop [1] .no)) .no) (.seq .no (.seq (.seq (.join (.one .nrm ⟨[], [(1, .ref 1 [] 0)], [(67, .bool)], [(1, 86, (.st rY59))], []⟩) .no) .no) (.seq .no (.seq (.join (.one .nrm ⟨[], [], [(0, .bool)], [], []⟩) .no) .no))))))), [], [.bool], [.tmp 0]⟩
noncomputable def foliolaw18_awake_r := foliolaw18_awake_rRun.F
noncomputable def foliolaw18_awake_rEnt : Nat × Go.Lf.Entry := (13, ⟨[], [.bool], foliolaw18_awake_r⟩)
theorem foliolaw18_awake_r_ok : Go.Lf.EntryOk Go.Proofs.Tryz.prog GG 13 foliolaw18_awake_rEnt.2 := Go.Lf.run_ok foliolaw18_awake_rRun Go.Proofs.Tryz.f13 (by kernel_rfl) ⟨TysQ_ok, Go.Lf.FnsOk.look (.con vm_New_r_ok (.con vm_Machine__Step_r_ok (.con vm_Machine__Line_r_ok (.con vm_Machine__Halted_r_ok (.con vm_Machine__Stack_r_ok (.con vm_Machine__Lines_r_ok (.con vm_Machine__Run_r_ok .nil))))))), Go.Lf.IpsOk.look .nil, TysQEq_ok, TysQIm_ok, Go.Lf.IvsOk.look .nil, Go.Lf.FxsOk.look .nil⟩ (by kernel_rfl) (by kernel_rfl) (by kernel_rfl) (by kernel_rfl) (by kernel_rfl) (by kernel_rfl) (by kernel_rfl)
end Go.Fn
/- Chapter 18's first example, run. -/
namespace Go.Fn
open Go Go.Lf
noncomputable def foliolaw18_awake : Option Bool := foliolaw18_awake_r ()
noncomputable def foliolaw18_awakeEnt : Nat × Entry := (13, ⟨[], [.bool], fun _ => foliolaw18_awake⟩)
theorem foliolaw18_awake_ok : EntryOk Go.Proofs.Tryz.prog GG 13 foliolaw18_awakeEnt.2 := foliolaw18_awake_r_ok
theorem awake : foliolaw18_awake = some true := by kernel_rfl
end Go.Fn
open Go Go.Lf
set_option maxRecDepth 10000
namespace Go.Fn
abbrev nY0 : Go.Lf.Ty := (.pr (.int .i64) (.pr (.int .i64) .unit))
abbrev nT1 : Type := (List ((Int) × ((Int) × ((Int) × (Unit)))))
abbrev nT2 : Type := ((Int) × ((Int) × ((List (Int)) × (Unit))))
abbrev nY3 : Go.Lf.Ty := (.pr (.int .i64) (.pr (.sl (.int .i64)) .unit))
abbrev nT4 : Type := ((Int) × (((Int) × ((Int) × (Unit))) × (Unit)))
abbrev nT5 : Type := (((Int) × ((Int) × (Unit))) × ((Int) × (Unit)))
abbrev nY6 : Go.Lf.Ty := (.st (.pr .bool (.pr (.int .i64) (.pr .str .unit))))
abbrev nY7 : Go.Lf.Ty := (.st (.pr (.int .i64) nY0))
abbrev nT8 : Type := (((Int) × nT4) × (Unit))
abbrev nT9 : Type := (List ((Int) × ((Int) × nT2)))
abbrev nY10 : Go.Lf.Ty := (.pr (.int .i64) (.pr (.int .i64) (.pr .str (.pr (.sl (.int .i64)) .unit))))
abbrev nT11 : Type := ((List (UInt8)) × ((Int) × nT5))
abbrev nY12 : Go.Lf.Ty := (.pr (.st nY0) (.pr (.int .i64) .unit))
abbrev nY13 : Go.Lf.Ty := (.pr (.int .i64) (.pr (.int .i64) nY0))
abbrev nY14 : Go.Lf.Ty := (.pr (.int .i64) (.pr (.st nY0) .unit))
abbrev nY15 : Go.Lf.Ty := (.pr (.int .i64) (.pr (.int .i64) nY3))
abbrev nY16 : Go.Lf.Ty := (.st (.pr (.int .i64) nY14))
abbrev nY17 : Go.Lf.Ty := (.pr .str (.pr (.int .i64) nY12))
abbrev nY18 : Go.Lf.Ty := (.st (.pr (.int .i64) nY15))
abbrev nT19 : Type := ((List (List nT11)) × ((Bool) × (Unit)))
abbrev nY20 : Go.Lf.Ty := (.pr (.sl (.sl (.st nY17))) (.pr .bool .unit))
abbrev nT21 : Type := ((List ((Int) × ((Int) × (Unit)))) × nT19)
abbrev nT22 : Type := ((Bool) × ((Int) × nT21))
abbrev nY23 : Go.Lf.Ty := (.pr (.sl (.st nY13)) (.pr (.sl (.st nY0)) (.pr .bool .unit)))
abbrev nT24 : Type := (((Int) × nT4) × (((Int) × nT4) × nT8))
abbrev nT25 : Type := ((List (UInt8)) × ((Int) × nT22))
abbrev nY26 : Go.Lf.Ty := (.pr (.sl (.st nY0)) nY20)
abbrev nY27 : Go.Lf.Ty := (.pr nY16 (.pr nY16 .unit))
abbrev nT28 : Type := ((Bool) × ((Int) × nT25))
abbrev nY29 : Go.Lf.Ty := (.pr .bool (.pr (.int .i64) nY26))
abbrev nY30 : Go.Lf.Ty := (.pr .str (.pr (.int .i64) nY29))
abbrev nT31 : Type := ((List ((Int) × ((Int) × (Unit)))) × ((Bool) × nT28))
abbrev nY32 : Go.Lf.Ty := (.pr .bool (.pr (.int .i64) nY30))
abbrev nT33 : Type := (((Int) × nT4) × (((Int) × nT4) × nT24))
abbrev nT34 : Type := ((List (List nT11)) × nT31)
abbrev nY35 : Go.Lf.Ty := (.pr (.sl (.st nY0)) (.pr .bool nY32))
abbrev nY36 : Go.Lf.Ty := (.pr nY16 (.pr nY16 nY27))
abbrev nT37 : Type := (((Int) × nT4) × (((Int) × nT4) × nT33))
abbrev nT38 : Type := ((List ((Int) × ((Int) × (Unit)))) × ((List nT11) × nT34))
abbrev nY39 : Go.Lf.Ty := (.pr (.sl (.sl (.st nY17))) nY35)
abbrev nT40 : Type := (((Int) × nT4) × (((Int) × nT4) × nT37))
abbrev nY41 : Go.Lf.Ty := (.pr (.sl (.st nY17)) nY39)
abbrev nY42 : Go.Lf.Ty := (.pr (.int .i64) (.pr nY6 (.pr (.sl nY16) (.pr (.sl (.int .i64)) (.pr (.sl (.st nY0)) (.pr (.int .i64) (.pr (.sl (.st nY17)) nY26)))))))
abbrev nY43 : Go.Lf.Ty := (.pr nY16 (.pr nY16 nY36))
abbrev nY44 : Go.Lf.Ty := (.pr (.sl (.st nY0)) nY41)
abbrev nT45 : Type := (((Int) × nT4) × (((Int) × nT4) × nT40))
abbrev nT46 : Type := (((Int) × nT4) × (((Int) × nT4) × nT45))
abbrev nY47 : Go.Lf.Ty := (.pr nY16 (.pr nY16 nY43))
abbrev nT48 : Type := (((Int) × nT4) × (((Int) × nT4) × nT46))
abbrev nY49 : Go.Lf.Ty := (.pr (.int .i64) (.pr (.sl nY18) (.pr (.sl (.st nY10)) (.pr (.int .i64) (.pr .bool (.pr (.sl (.sl (.st nY17))) (.pr .bool nY42)))))))
abbrev nT50 : Type := (((Int) × nT4) × (((Int) × nT4) × nT48))
abbrev nY51 : Go.Lf.Ty := (.pr nY16 (.pr nY16 nY47))
abbrev nT52 : Type := (((Int) × nT4) × (((Int) × nT4) × nT50))
abbrev nY53 : Go.Lf.Ty := (.pr nY16 (.pr nY16 nY51))
abbrev nT54 : Type := (((Int) × nT4) × (((Int) × nT4) × nT52))
abbrev nT55 : Type := (((Int) × nT4) × (((Int) × nT4) × nT54))
abbrev nY56 : Go.Lf.Ty := (.pr nY16 (.pr nY16 nY53))
abbrev nT57 : Type := (((Int) × nT4) × (((Int) × nT4) × nT55))
abbrev nT58 : Type := (((Int) × nT4) × (((Int) × nT4) × nT57))
abbrev nY59 : Go.Lf.Ty := (.pr nY16 (.pr nY16 nY56))
abbrev nT60 : Type := (((Int) × nT4) × (((Int) × nT4) × nT58))
abbrev nT61 : Type := (((Int) × nT4) × (((Int) × nT4) × nT60))
abbrev nY62 : Go.Lf.Ty := (.pr nY16 (.pr nY16 nY59))
abbrev nY63 : Go.Lf.Ty := (.pr nY16 (.pr nY16 nY62))
abbrev nY64 : Go.Lf.Ty := (.pr nY16 (.pr nY16 nY63))
abbrev nT65 : Type := ((((Int) × nT4) × nT61) × ((Int) × nT38))
abbrev nT66 : Type := ((Int) × ((Bool) × nT65))
abbrev nT67 : Type := ((Int) × ((Int) × nT66))
abbrev nY68 : Go.Lf.Ty := (.pr nY16 (.pr nY16 nY64))
abbrev nT69 : Type := (nT9 × ((List (UInt8)) × nT67))
abbrev nY70 : Go.Lf.Ty := (.pr nY16 (.pr nY16 nY68))
abbrev nY71 : Go.Lf.Ty := (.pr nY16 (.pr nY16 nY70))
abbrev nY72 : Go.Lf.Ty := (.pr nY16 (.pr nY16 nY71))
abbrev nY73 : Go.Lf.Ty := (.pr nY16 (.pr nY16 nY72))
abbrev nY74 : Go.Lf.Ty := (.pr (.st nY73) (.pr (.int .i64) nY44))
abbrev nY75 : Go.Lf.Ty := (.pr (.int .i64) (.pr .bool nY74))
abbrev nY76 : Go.Lf.Ty := (.pr (.int .i64) (.pr (.int .i64) nY75))
abbrev nY77 : Go.Lf.Ty := (.pr (.sl nY18) (.pr .str nY76))
abbrev nY78 : Go.Lf.Ty := (.pr (.int .i64) (.pr (.sl nY7) nY77))
def TysN : List (Nat × Go.Lf.TyI) := [(2, ⟨(.int .i64), 0, 0⟩),
 (3, ⟨(.int .i64), 0, 0⟩),
 (4, ⟨.bool, 0, 0⟩),
 (5, ⟨(.int .u8), 0, 0⟩),
 (6, ⟨(.int .u8), 0, 0⟩),
 (7, ⟨(.st (.pr (.int .i64) (.pr (.int .i64) (.pr .bool (.pr (.int .u8) .unit))))), 0, 0⟩),
 (8, ⟨(.st (.pr (.int .i64) (.pr (.int .i64) (.pr .bool (.pr (.int .u8) .unit))))), 0, 0⟩),
 (9, ⟨.str, 0, 0⟩),
 (10, ⟨.str, 0, 0⟩),
 (11, ⟨.str, 0, 0⟩),
 (12, ⟨(.int .u64), 0, 0⟩),
 (13, ⟨(.st (.pr .str (.pr (.int .u64) .unit))), 0, 0⟩),
 (14, ⟨(.st (.pr .str (.pr (.int .u64) .unit))), 0, 0⟩),
 (21, ⟨(.int .i32), 0, 0⟩),
 (22, ⟨(.sl (.st (.pr .str (.pr .str (.pr nY7 .unit))))), 72, 56⟩),
 (23, ⟨(.sl (.int .u8)), 5, 1⟩),
 (24, ⟨(.sl (.sl (.st nY17))), 50, 24⟩),
 (25, ⟨(.sl (.st nY13)), 93, 32⟩),
 (26, ⟨(.sl (.st nY0)), 80, 16⟩),
 (27, ⟨(.st (.pr (.sl (.sl (.st nY17))) nY23)), 0, 0⟩),
 (28, ⟨(.st (.pr (.sl (.sl (.st nY17))) nY23)), 0, 0⟩),
 (29, ⟨(.int .i64), 0, 0⟩),
 (44, ⟨(.sl nY18), 64, 56⟩),
 (45, ⟨(.sl (.st nY10)), 108, 56⟩),
 (46, ⟨nY6, 0, 0⟩),
 (47, ⟨nY6, 0, 0⟩),
 (48, ⟨(.sl nY16), 76, 32⟩),
 (49, ⟨(.sl (.int .i64)), 3, 8⟩),
 (50, ⟨(.sl (.st nY17)), 78, 48⟩),
 (51, ⟨(.sl (.st nY0)), 201, 16⟩),
 (52, ⟨(.st (.pr (.sl (.st (.pr .str (.pr .str (.pr nY7 .unit))))) nY49)), 0, 0⟩),
 (53, ⟨(.st (.pr (.sl (.st (.pr .str (.pr .str (.pr nY7 .unit))))) nY49)), 0, 0⟩),
 (62, ⟨(.int .i64), 0, 0⟩),
 (64, ⟨nY18, 0, 0⟩),
 (83, ⟨(.st nY73), 76, 32⟩),
 (84, ⟨(.sl (.st nY0)), 125, 16⟩),
 (86, ⟨(.st nY78), 0, 0⟩),
 (180, ⟨(.sl .bool), 4, 1⟩),
 (181, ⟨(.sl (.st (.pr .bool nY13))), 241, 40⟩),
 (182, ⟨(.st (.pr .bool (.pr (.sl .bool) (.pr (.sl (.st (.pr .bool nY13))) (.pr .bool .unit))))), 0, 0⟩),
 (38, ⟨(.op (.st nY78)), 0, 0⟩),
 (87, ⟨(.sl (.op (.st nY78))), 38, 8⟩),
 (113, ⟨(.ptr nY16), 0, 0⟩),
 (165, ⟨(.ptr (.st (.pr (.sl (.int .u8)) nY0))), 0, 0⟩),
 (198, ⟨(.ptr (.st nY0)), 0, 0⟩),
 (220, ⟨(.ptr (.st (.pr (.int .i64) nY13))), 0, 0⟩),
 (227, ⟨(.ptr (.st (.pr (.int .i64) (.pr (.sl (.sl (.st nY17))) (.pr (.sl (.st nY17)) (.pr (.int .i64) (.pr (.sl (.st nY17)) .unit))))))), 0, 0⟩)]
theorem TysN_ok : ∀ id i, Go.Lf.look TysN id = some i → Go.Lf.TyOk Go.Proofs.Tryz.prog id i := Go.Lf.tysB_ok (by kernel_rfl)
def TysNEq : List (Nat × Go.Lf.Ty) := []
theorem TysNEq_ok : ∀ id t, Go.Lf.look TysNEq id = some t → Go.Lf.eqTop Go.Proofs.Tryz.prog id t = true := Go.Lf.eqsB_ok (by kernel_rfl)
def TysNIm : List (Nat × List (Nat × Bool)) := []
theorem TysNIm_ok : ∀ a l, Go.Lf.look TysNIm a = some l → Go.Lf.ImOk Go.Proofs.Tryz.prog a l := Go.Lf.imsB_ok (by kernel_rfl)
noncomputable def vm_Machine__isCtx : Go.Lf.Ctx := ⟨12, TysN, [], [], [], [], [], TysNEq, [], none, TysNIm, []⟩
noncomputable def vm_Machine__isCode : Go.Code := (Go.Proofs.Tryz.f40.body).getD .skip
def vm_Machine__isAnn : Go.Lf.Ann := (.seq .no (.seq (.join (.one .nrm ⟨[], [], [(2, .bool)], [], []⟩) .no) .no))
noncomputable def vm_Machine__is (a0 : Option ((Int) × (nT1 × nT69))) : Option (Bool) :=
 (bif (Option.isSome a0) then (a0).bind fun r1 =>
  some (decide ((r1.1 : Int) = (1 : Int)))
  else some false).bind fun r2 =>
 some r2
theorem vm_Machine__is_eq (a0 : Option ((Int) × (nT1 × nT69))) : Go.Lf.fnE vm_Machine__isCtx vm_Machine__isCode vm_Machine__isAnn [.val (.op (.st nY78))] [.bool] [.tmp 2] (a0) = vm_Machine__is a0 := by kernel_rfl
noncomputable def vm_Machine__isEnt : Nat × Go.Lf.Entry := (40, ⟨[.val (.op (.st nY78))], [.bool], fun z => vm_Machine__is z⟩)
theorem vm_Machine__is_ok : Go.Lf.EntryOk Go.Proofs.Tryz.prog GG 40 vm_Machine__isEnt.2 :=
 Go.Lf.fn_ok (c := vm_Machine__isCtx) (code := vm_Machine__isCode) (an := vm_Machine__isAnn) (slots := [.tmp 2]) (fn := Go.Proofs.Tryz.f40) (by kernel_rfl) ⟨TysN_ok, Go.Lf.FnsOk.look .nil, Go.Lf.IpsOk.look .nil, TysNEq_ok, TysNIm_ok, Go.Lf.IvsOk.look .nil, Go.Lf.FxsOk.look .nil⟩ (by kernel_rfl) (by kernel_rfl) (by kernel_rfl) (by kernel_rfl) (by kernel_rfl) (Nat.le_of_ble_eq_true rfl) (by simp [Go.Lf.Ty.top]) (by simp [Go.Lf.Ty.top]) fun z r h => (vm_Machine__is_eq z).trans h
noncomputable def vm_Machine__StepCtx : Go.Lf.Ctx := ⟨55, TysN, [vm_Machine__isEnt], [], [], [(6000010, .bool), (6000014, .bool)], [], TysNEq, [], none, TysNIm, []⟩
noncomputable def vm_Machine__StepCode : Go.Code := (Go.Proofs.Tryz.f16.body).getD .skip
def vm_Machine__StepAnn : Go.Lf.Ann := (.seq .no (.seq (.seq .no (.cnd .no (.seq (.opn 999999 .no) .no))) .no))
noncomputable def vm_Machine__Step (a0 : Option ((Int) × (nT1 × nT69))) : Option (Int) :=
 ((Go.Fn.vm_Machine__is a0)).bind fun r1 =>
 bif (!r1) then some (182 : Int)
 else none
theorem vm_Machine__Step_eq (a0 : Option ((Int) × (nT1 × nT69))) : Go.Lf.fnE vm_Machine__StepCtx vm_Machine__StepCode vm_Machine__StepAnn [.val (.op (.st nY78))] [(.int .i64)] [.tmp 2] (a0) = vm_Machine__Step a0 := by kernel_rfl
noncomputable def vm_Machine__StepEnt : Nat × Go.Lf.Entry := (16, ⟨[.val (.op (.st nY78))], [(.int .i64)], fun z => vm_Machine__Step z⟩)
theorem vm_Machine__Step_ok : Go.Lf.EntryOk Go.Proofs.Tryz.prog GG 16 vm_Machine__StepEnt.2 :=
 Go.Lf.fn_ok (c := vm_Machine__StepCtx) (code := vm_Machine__StepCode) (an := vm_Machine__StepAnn) (slots := [.tmp 2]) (fn := Go.Proofs.Tryz.f16) (by kernel_rfl) ⟨TysN_ok, Go.Lf.FnsOk.look (.con vm_Machine__is_ok .nil), Go.Lf.IpsOk.look .nil, TysNEq_ok, TysNIm_ok, Go.Lf.IvsOk.look .nil, Go.Lf.FxsOk.look .nil⟩ (by kernel_rfl) (by kernel_rfl) (by kernel_rfl) (by kernel_rfl) (by kernel_rfl) (Nat.le_of_ble_eq_true rfl) (by simp [Go.Lf.Ty.top]) (by simp [Go.Lf.Ty.top]) fun z r h => (vm_Machine__Step_eq z).trans h
noncomputable def vm_Machine__LineCtx : Go.Lf.Ctx := ⟨28, TysN, [vm_Machine__isEnt], [4], [], [(4, (.rw 78 (.st nY17))), (6000010, .bool)], [], TysNEq, [], none, TysNIm, []⟩
noncomputable def vm_Machine__LineCode : Go.Code := (Go.Proofs.Tryz.f19.body).getD .skip
def vm_Machine__LineAnn : Go.Lf.Ann := (.seq .no (.seq .no (.seq (.seq (.opn 999999 .no) .no) .no)))
noncomputable def vm_Machine__Line (a0 : Option ((Int) × (nT1 × nT69))) (_ : Int) : Option ((List nT11) × (Int)) :=
 ((Go.Fn.vm_Machine__is a0)).bind fun r1 =>
 bif (!r1) then some (([] : List nT11), (182 : Int))
 else none
theorem vm_Machine__Line_eq (a0 : Option ((Int) × (nT1 × nT69))) (a1 : Int) : Go.Lf.fnE vm_Machine__LineCtx vm_Machine__LineCode vm_Machine__LineAnn [.val (.op (.st nY78)), .val (.int .i64)] [(.rw 78 (.st nY17)), (.int .i64)] [.tmp 4, .tmp 5] (a0, a1) = vm_Machine__Line a0 a1 := by kernel_rfl
noncomputable def vm_Machine__LineEnt : Nat × Go.Lf.Entry := (19, ⟨[.val (.op (.st nY78)), .val (.int .i64)], [(.rw 78 (.st nY17)), (.int .i64)], fun z => vm_Machine__Line z.1 z.2⟩)
theorem vm_Machine__Line_ok : Go.Lf.EntryOk Go.Proofs.Tryz.prog GG 19 vm_Machine__LineEnt.2 :=
 Go.Lf.fn_ok (c := vm_Machine__LineCtx) (code := vm_Machine__LineCode) (an := vm_Machine__LineAnn) (slots := [.tmp 4, .tmp 5]) (fn := Go.Proofs.Tryz.f19) (by kernel_rfl) ⟨TysN_ok, Go.Lf.FnsOk.look (.con vm_Machine__is_ok .nil), Go.Lf.IpsOk.look .nil, TysNEq_ok, TysNIm_ok, Go.Lf.IvsOk.look .nil, Go.Lf.FxsOk.look .nil⟩ (by kernel_rfl) (by kernel_rfl) (by kernel_rfl) (by kernel_rfl) (by kernel_rfl) (Nat.le_of_ble_eq_true rfl) (by simp [Go.Lf.Ty.top]) (by simp [Go.Lf.Ty.top]) fun z r h => (vm_Machine__Line_eq z.1 z.2).trans h
noncomputable def vm_Machine__LaidCtx : Go.Lf.Ctx := ⟨51, TysN, [vm_Machine__isEnt], [39], [], [(39, (.rw 50 (.sl (.st nY17)))), (6000014, .bool), (6000020, .bool)], [], TysNEq, [], none, TysNIm, []⟩
noncomputable def vm_Machine__LaidCode : Go.Code := (Go.Proofs.Tryz.f27.body).getD .skip
def vm_Machine__LaidAnn : Go.Lf.Ann := (.seq .no (.seq (.seq .no (.cnd .no (.seq (.opn 999999 .no) .no))) .no))
noncomputable def vm_Machine__Laid (a0 : Option ((Int) × (nT1 × nT69))) : Option (((List (List nT11)) × ((List ((Int) × ((Int) × ((Int) × ((Int) × (Unit)))))) × ((List ((Int) × ((Int) × (Unit)))) × ((Bool) × (Unit))))) × (Int)) :=
 ((Go.Fn.vm_Machine__is a0)).bind fun r1 =>
 bif (!r1) then some ((([] : List (List nT11)), (([] : List ((Int) × ((Int) × ((Int) × ((Int) × (Unit)))))), (([] : List ((Int) × ((Int) × (Unit)))), (false, ())))), (182 : Int))
 else none
theorem vm_Machine__Laid_eq (a0 : Option ((Int) × (nT1 × nT69))) : Go.Lf.fnE vm_Machine__LaidCtx vm_Machine__LaidCode vm_Machine__LaidAnn [.val (.op (.st nY78))] [(.st (.pr (.sl (.sl (.st nY17))) nY23)), (.int .i64)] [.cell 2 28, .tmp 3] (a0) = vm_Machine__Laid a0 := by kernel_rfl
noncomputable def vm_Machine__LaidEnt : Nat × Go.Lf.Entry := (27, ⟨[.val (.op (.st nY78))], [(.st (.pr (.sl (.sl (.st nY17))) nY23)), (.int .i64)], fun z => vm_Machine__Laid z⟩)
theorem vm_Machine__Laid_ok : Go.Lf.EntryOk Go.Proofs.Tryz.prog GG 27 vm_Machine__LaidEnt.2 :=
 Go.Lf.fn_ok (c := vm_Machine__LaidCtx) (code := vm_Machine__LaidCode) (an := vm_Machine__LaidAnn) (slots := [.cell 2 28, .tmp 3]) (fn := Go.Proofs.Tryz.f27) (by kernel_rfl) ⟨TysN_ok, Go.Lf.FnsOk.look (.con vm_Machine__is_ok .nil), Go.Lf.IpsOk.look .nil, TysNEq_ok, TysNIm_ok, Go.Lf.IvsOk.look .nil, Go.Lf.FxsOk.look .nil⟩ (by kernel_rfl) (by kernel_rfl) (by kernel_rfl) (by kernel_rfl) (by kernel_rfl) (Nat.le_of_ble_eq_true rfl) (by simp [Go.Lf.Ty.top]) (by simp [Go.Lf.Ty.top]) fun z r h => (vm_Machine__Laid_eq z).trans h
noncomputable def vm_Machine__AtCtx : Go.Lf.Ctx := ⟨17, TysN, [vm_Machine__isEnt], [], [], [(6000007, .bool)], [], TysNEq, [], none, TysNIm, []⟩
noncomputable def vm_Machine__AtCode : Go.Code := (Go.Proofs.Tryz.f23.body).getD .skip
def vm_Machine__AtAnn : Go.Lf.Ann := (.seq .no (.seq .no (.seq (.opn 999999 .no) .no)))
noncomputable def vm_Machine__At (a0 : Option ((Int) × (nT1 × nT69))) : Option (Int) :=
 ((Go.Fn.vm_Machine__is a0)).bind fun r1 =>
 bif (!r1) then some (0 : Int)
 else none
theorem vm_Machine__At_eq (a0 : Option ((Int) × (nT1 × nT69))) : Go.Lf.fnE vm_Machine__AtCtx vm_Machine__AtCode vm_Machine__AtAnn [.val (.op (.st nY78))] [(.int .i64)] [.tmp 2] (a0) = vm_Machine__At a0 := by kernel_rfl
noncomputable def vm_Machine__AtEnt : Nat × Go.Lf.Entry := (23, ⟨[.val (.op (.st nY78))], [(.int .i64)], fun z => vm_Machine__At z⟩)
theorem vm_Machine__At_ok : Go.Lf.EntryOk Go.Proofs.Tryz.prog GG 23 vm_Machine__AtEnt.2 :=
 Go.Lf.fn_ok (c := vm_Machine__AtCtx) (code := vm_Machine__AtCode) (an := vm_Machine__AtAnn) (slots := [.tmp 2]) (fn := Go.Proofs.Tryz.f23) (by kernel_rfl) ⟨TysN_ok, Go.Lf.FnsOk.look (.con vm_Machine__is_ok .nil), Go.Lf.IpsOk.look .nil, TysNEq_ok, TysNIm_ok, Go.Lf.IvsOk.look .nil, Go.Lf.FxsOk.look .nil⟩ (by kernel_rfl) (by kernel_rfl) (by kernel_rfl) (by kernel_rfl) (by kernel_rfl) (Nat.le_of_ble_eq_true rfl) (by simp [Go.Lf.Ty.top]) (by simp [Go.Lf.Ty.top]) fun z r h => (vm_Machine__At_eq z).trans h
noncomputable def vm_Machine__StepsCtx : Go.Lf.Ctx := ⟨10, TysN, [vm_Machine__isEnt], [], [], [(6000007, .bool)], [], TysNEq, [], none, TysNIm, []⟩
noncomputable def vm_Machine__StepsCode : Go.Code := (Go.Proofs.Tryz.f24.body).getD .skip
def vm_Machine__StepsAnn : Go.Lf.Ann := (.seq .no (.seq .no (.seq (.opn 999999 .no) .no)))
noncomputable def vm_Machine__Steps (a0 : Option ((Int) × (nT1 × nT69))) : Option (Int) :=
 ((Go.Fn.vm_Machine__is a0)).bind fun r1 =>
 bif (!r1) then some (0 : Int)
 else none
theorem vm_Machine__Steps_eq (a0 : Option ((Int) × (nT1 × nT69))) : Go.Lf.fnE vm_Machine__StepsCtx vm_Machine__StepsCode vm_Machine__StepsAnn [.val (.op (.st nY78))] [(.int .i64)] [.tmp 2] (a0) = vm_Machine__Steps a0 := by kernel_rfl
noncomputable def vm_Machine__StepsEnt : Nat × Go.Lf.Entry := (24, ⟨[.val (.op (.st nY78))], [(.int .i64)], fun z => vm_Machine__Steps z⟩)
theorem vm_Machine__Steps_ok : Go.Lf.EntryOk Go.Proofs.Tryz.prog GG 24 vm_Machine__StepsEnt.2 :=
 Go.Lf.fn_ok (c := vm_Machine__StepsCtx) (code := vm_Machine__StepsCode) (an := vm_Machine__StepsAnn) (slots := [.tmp 2]) (fn := Go.Proofs.Tryz.f24) (by kernel_rfl) ⟨TysN_ok, Go.Lf.FnsOk.look (.con vm_Machine__is_ok .nil), Go.Lf.IpsOk.look .nil, TysNEq_ok, TysNIm_ok, Go.Lf.IvsOk.look .nil, Go.Lf.FxsOk.look .nil⟩ (by kernel_rfl) (by kernel_rfl) (by kernel_rfl) (by kernel_rfl) (by kernel_rfl) (Nat.le_of_ble_eq_true rfl) (by simp [Go.Lf.Ty.top]) (by simp [Go.Lf.Ty.top]) fun z r h => (vm_Machine__Steps_eq z).trans h
noncomputable def vm_Machine__HaltedCtx : Go.Lf.Ctx := ⟨11, TysN, [vm_Machine__isEnt], [], [], [], [], TysNEq, [], none, TysNIm, []⟩
noncomputable def vm_Machine__HaltedCode : Go.Code := (Go.Proofs.Tryz.f22.body).getD .skip
def vm_Machine__HaltedAnn : Go.Lf.Ann := (.seq .no (.seq (.join (.one .nrm ⟨[], [], [(2, .bool)], [], []⟩) .no) .no))
noncomputable def vm_Machine__Halted (a0 : Option ((Int) × (nT1 × nT69))) : Option (Bool) :=
 (((Go.Fn.vm_Machine__is a0)).bind fun r1 =>
  bif r1 then (a0).bind fun r2 =>
  some r2.2.2.2.2.2.2.2.1
  else some false).bind fun r3 =>
 some r3
theorem vm_Machine__Halted_eq (a0 : Option ((Int) × (nT1 × nT69))) : Go.Lf.fnE vm_Machine__HaltedCtx vm_Machine__HaltedCode vm_Machine__HaltedAnn [.val (.op (.st nY78))] [.bool] [.tmp 2] (a0) = vm_Machine__Halted a0 := by kernel_rfl
noncomputable def vm_Machine__HaltedEnt : Nat × Go.Lf.Entry := (22, ⟨[.val (.op (.st nY78))], [.bool], fun z => vm_Machine__Halted z⟩)
theorem vm_Machine__Halted_ok : Go.Lf.EntryOk Go.Proofs.Tryz.prog GG 22 vm_Machine__HaltedEnt.2 :=
 Go.Lf.fn_ok (c := vm_Machine__HaltedCtx) (code := vm_Machine__HaltedCode) (an := vm_Machine__HaltedAnn) (slots := [.tmp 2]) (fn := Go.Proofs.Tryz.f22) (by kernel_rfl) ⟨TysN_ok, Go.Lf.FnsOk.look (.con vm_Machine__is_ok .nil), Go.Lf.IpsOk.look .nil, TysNEq_ok, TysNIm_ok, Go.Lf.IvsOk.look .nil, Go.Lf.FxsOk.look .nil⟩ (by kernel_rfl) (by kernel_rfl) (by kernel_rfl) (by kernel_rfl) (by kernel_rfl) (Nat.le_of_ble_eq_true rfl) (by simp [Go.Lf.Ty.top]) (by simp [Go.Lf.Ty.top]) fun z r h => (vm_Machine__Halted_eq z).trans h
noncomputable def vm_Machine__StackCtx : Go.Lf.Ctx := ⟨15, TysN, [vm_Machine__isEnt], [2], [], [(2, (.rw 76 nY16)), (6000007, .bool)], [], TysNEq, [], none, TysNIm, []⟩
noncomputable def vm_Machine__StackCode : Go.Code := (Go.Proofs.Tryz.f25.body).getD .skip
def vm_Machine__StackAnn : Go.Lf.Ann := (.seq .no (.seq .no (.seq (.opn 999999 .no) .no)))
noncomputable def vm_Machine__Stack (a0 : Option ((Int) × (nT1 × nT69))) : Option (List ((Int) × nT4)) :=
 ((Go.Fn.vm_Machine__is a0)).bind fun r1 =>
 bif (!r1) then some ([] : List ((Int) × nT4))
 else none
theorem vm_Machine__Stack_eq (a0 : Option ((Int) × (nT1 × nT69))) : Go.Lf.fnE vm_Machine__StackCtx vm_Machine__StackCode vm_Machine__StackAnn [.val (.op (.st nY78))] [(.rw 76 nY16)] [.tmp 2] (a0) = vm_Machine__Stack a0 := by kernel_rfl
noncomputable def vm_Machine__StackEnt : Nat × Go.Lf.Entry := (25, ⟨[.val (.op (.st nY78))], [(.rw 76 nY16)], fun z => vm_Machine__Stack z⟩)
theorem vm_Machine__Stack_ok : Go.Lf.EntryOk Go.Proofs.Tryz.prog GG 25 vm_Machine__StackEnt.2 :=
 Go.Lf.fn_ok (c := vm_Machine__StackCtx) (code := vm_Machine__StackCode) (an := vm_Machine__StackAnn) (slots := [.tmp 2]) (fn := Go.Proofs.Tryz.f25) (by kernel_rfl) ⟨TysN_ok, Go.Lf.FnsOk.look (.con vm_Machine__is_ok .nil), Go.Lf.IpsOk.look .nil, TysNEq_ok, TysNIm_ok, Go.Lf.IvsOk.look .nil, Go.Lf.FxsOk.look .nil⟩ (by kernel_rfl) (by kernel_rfl) (by kernel_rfl) (by kernel_rfl) (by kernel_rfl) (Nat.le_of_ble_eq_true rfl) (by simp [Go.Lf.Ty.top]) (by simp [Go.Lf.Ty.top]) fun z r h => (vm_Machine__Stack_eq z).trans h
noncomputable def vm_Machine__LinesCtx : Go.Lf.Ctx := ⟨11, TysN, [vm_Machine__isEnt], [], [], [(6000007, .bool)], [], TysNEq, [], none, TysNIm, []⟩
noncomputable def vm_Machine__LinesCode : Go.Code := (Go.Proofs.Tryz.f26.body).getD .skip
def vm_Machine__LinesAnn : Go.Lf.Ann := (.seq .no (.seq .no (.seq (.opn 999999 .no) .no)))
noncomputable def vm_Machine__Lines (a0 : Option ((Int) × (nT1 × nT69))) : Option (Int) :=
 ((Go.Fn.vm_Machine__is a0)).bind fun r1 =>
 bif (!r1) then some (0 : Int)
 else none
theorem vm_Machine__Lines_eq (a0 : Option ((Int) × (nT1 × nT69))) : Go.Lf.fnE vm_Machine__LinesCtx vm_Machine__LinesCode vm_Machine__LinesAnn [.val (.op (.st nY78))] [(.int .i64)] [.tmp 2] (a0) = vm_Machine__Lines a0 := by kernel_rfl
noncomputable def vm_Machine__LinesEnt : Nat × Go.Lf.Entry := (26, ⟨[.val (.op (.st nY78))], [(.int .i64)], fun z => vm_Machine__Lines z⟩)
theorem vm_Machine__Lines_ok : Go.Lf.EntryOk Go.Proofs.Tryz.prog GG 26 vm_Machine__LinesEnt.2 :=
 Go.Lf.fn_ok (c := vm_Machine__LinesCtx) (code := vm_Machine__LinesCode) (an := vm_Machine__LinesAnn) (slots := [.tmp 2]) (fn := Go.Proofs.Tryz.f26) (by kernel_rfl) ⟨TysN_ok, Go.Lf.FnsOk.look (.con vm_Machine__is_ok .nil), Go.Lf.IpsOk.look .nil, TysNEq_ok, TysNIm_ok, Go.Lf.IvsOk.look .nil, Go.Lf.FxsOk.look .nil⟩ (by kernel_rfl) (by kernel_rfl) (by kernel_rfl) (by kernel_rfl) (by kernel_rfl) (Nat.le_of_ble_eq_true rfl) (by simp [Go.Lf.Ty.top]) (by simp [Go.Lf.Ty.top]) fun z r h => (vm_Machine__Lines_eq z).trans h
noncomputable def vm_Machine__CloneCtx : Go.Lf.Ctx := ⟨40, TysN, [vm_Machine__isEnt], [], [], [(6000008, .bool)], [], TysNEq, [], none, TysNIm, []⟩
noncomputable def vm_Machine__CloneCode : Go.Code := (Go.Proofs.Tryz.f31.body).getD .skip
def vm_Machine__CloneAnn : Go.Lf.Ann := (.seq .no (.seq .no (.seq (.opn 999999 .no) .no)))
noncomputable def vm_Machine__Clone (a0 : Option ((Int) × (nT1 × nT69))) : Option (Option ((Int) × (nT1 × nT69))) :=
 ((Go.Fn.vm_Machine__is a0)).bind fun r1 =>
 bif (!r1) then some (none : Option ((Int) × (nT1 × nT69)))
 else none
theorem vm_Machine__Clone_eq (a0 : Option ((Int) × (nT1 × nT69))) : Go.Lf.fnE vm_Machine__CloneCtx vm_Machine__CloneCode vm_Machine__CloneAnn [.val (.op (.st nY78))] [(.op (.st nY78))] [.tmp 2] (a0) = vm_Machine__Clone a0 := by kernel_rfl
noncomputable def vm_Machine__CloneEnt : Nat × Go.Lf.Entry := (31, ⟨[.val (.op (.st nY78))], [(.op (.st nY78))], fun z => vm_Machine__Clone z⟩)
theorem vm_Machine__Clone_ok : Go.Lf.EntryOk Go.Proofs.Tryz.prog GG 31 vm_Machine__CloneEnt.2 :=
 Go.Lf.fn_ok (c := vm_Machine__CloneCtx) (code := vm_Machine__CloneCode) (an := vm_Machine__CloneAnn) (slots := [.tmp 2]) (fn := Go.Proofs.Tryz.f31) (by kernel_rfl) ⟨TysN_ok, Go.Lf.FnsOk.look (.con vm_Machine__is_ok .nil), Go.Lf.IpsOk.look .nil, TysNEq_ok, TysNIm_ok, Go.Lf.IvsOk.look .nil, Go.Lf.FxsOk.look .nil⟩ (by kernel_rfl) (by kernel_rfl) (by kernel_rfl) (by kernel_rfl) (by kernel_rfl) (Nat.le_of_ble_eq_true rfl) (by simp [Go.Lf.Ty.top]) (by simp [Go.Lf.Ty.top]) fun z r h => (vm_Machine__Clone_eq z).trans h
end Go.Fn
/- (*vm.Machine).Run of a machine that there is not, walked. -/
namespace Go.Fn
open Go Go.Lf Go.Eng Go.RowKit Go.Proofs
abbrev VmF : Ty := (.st (.pr (.int .i64) (.pr (.sl (.st (.pr (.int .i64) (.pr (.int .i64) (.pr (.int .i64) .unit))))) (.pr (.sl (.st (.pr (.int .i64) (.pr (.int .i64) (.pr (.int .i64) (.pr (.int .i64) (.pr (.sl (.int .i64)) .unit))))))) (.pr .str (.pr (.int .i64) (.pr (.int .i64) (.pr (.int .i64) (.pr .bool (.pr (.st (.pr (.st (.pr (.int .i64) (.pr (.int .i64) (.pr (.st (.pr (.int .i64) (.pr (.int .i64) .unit))) .unit)))) (.pr (.st (.pr (.int .i64) (.pr (.int .i64) (.pr (.st (.pr (.int .i64) (.pr (.int .i64) .unit))) .unit)))) (.pr (.st (.pr (.int .i64) (.pr (.int .i64) (.pr (.st (.pr (.int .i64) (.pr (.int .i64) .unit))) .unit)))) (.pr (.st (.pr (.int .i64) (.pr (.int .i64) (.pr (.st (.pr (.int .i64) (.pr (.int .i64) .unit))) .unit)))) (.pr (.st (.pr (.int .i64) (.pr (.int .i64) (.pr (.st (.pr (.int .i64) (.pr (.int .i64) .unit))) .unit)))) (.pr (.st (.pr (.int .i64) (.pr (.int .i64) (.pr (.st (.pr (.int .i64) (.pr (.int .i64) .unit))) .unit)))) (.pr (.st (.pr (.int .i64) (.pr (.int .i64) (.pr (.st (.pr (.int .i64) (.pr (.int .i64) .unit))) .unit)))) (.pr (.st (.pr (.int .i64) (.pr (.int .i64) (.pr (.st (.pr (.int .i64) (.pr (.int .i64) .unit))) .unit)))) (.pr (.st (.pr (.int .i64) (.pr (.int .i64) (.pr (.st (.pr (.int .i64) (.pr (.int .i64) .unit))) .unit)))) (.pr (.st (.pr (.int .i64) (.pr (.int .i64) (.pr (.st (.pr (.int .i64) (.pr (.int .i64) .unit))) .unit)))) (.pr (.st (.pr (.int .i64) (.pr (.int .i64) (.pr (.st (.pr (.int .i64) (.pr (.int .i64) .unit))) .unit)))) (.pr (.st (.pr (.int .i64) (.pr (.int .i64) (.pr (.st (.pr (.int .i64) (.pr (.int .i64) .unit))) .unit)))) (.pr (.st (.pr (.int .i64) (.pr (.int .i64) (.pr (.st (.pr (.int .i64) (.pr (.int .i64) .unit))) .unit)))) (.pr (.st (.pr (.int .i64) (.pr (.int .i64) (.pr (.st (.pr (.int .i64) (.pr (.int .i64) .unit))) .unit)))) (.pr (.st (.pr (.int .i64) (.pr (.int .i64) (.pr (.st (.pr (.int .i64) (.pr (.int .i64) .unit))) .unit)))) (.pr (.st (.pr (.int .i64) (.pr (.int .i64) (.pr (.st (.pr (.int .i64) (.pr (.int .i64) .unit))) .unit)))) (.pr (.st (.pr (.int .i64) (.pr (.int .i64) (.pr (.st (.pr (.int .i64) (.pr (.int .i64) .unit))) .unit)))) (.pr (.st (.pr (.int .i64) (.pr (.int .i64) (.pr (.st (.pr (.int .i64) (.pr (.int .i64) .unit))) .unit)))) (.pr (.st (.pr (.int .i64) (.pr (.int .i64) (.pr (.st (.pr (.int .i64) (.pr (.int .i64) .unit))) .unit)))) (.pr (.st (.pr (.int .i64) (.pr (.int .i64) (.pr (.st (.pr (.int .i64) (.pr (.int .i64) .unit))) .unit)))) (.pr (.st (.pr (.int .i64) (.pr (.int .i64) (.pr (.st (.pr (.int .i64) (.pr (.int .i64) .unit))) .unit)))) (.pr (.st (.pr (.int .i64) (.pr (.int .i64) (.pr (.st (.pr (.int .i64) (.pr (.int .i64) .unit))) .unit)))) (.pr (.st (.pr (.int .i64) (.pr (.int .i64) (.pr (.st (.pr (.int .i64) (.pr (.int .i64) .unit))) .unit)))) (.pr (.st (.pr (.int .i64) (.pr (.int .i64) (.pr (.st (.pr (.int .i64) (.pr (.int .i64) .unit))) .unit)))) (.pr (.st (.pr (.int .i64) (.pr (.int .i64) (.pr (.st (.pr (.int .i64) (.pr (.int .i64) .unit))) .unit)))) (.pr (.st (.pr (.int .i64) (.pr (.int .i64) (.pr (.st (.pr (.int .i64) (.pr (.int .i64) .unit))) .unit)))) (.pr (.st (.pr (.int .i64) (.pr (.int .i64) (.pr (.st (.pr (.int .i64) (.pr (.int .i64) .unit))) .unit)))) (.pr (.st (.pr (.int .i64) (.pr (.int .i64) (.pr (.st (.pr (.int .i64) (.pr (.int .i64) .unit))) .unit)))) (.pr (.st (.pr (.int .i64) (.pr (.int .i64) (.pr (.st (.pr (.int .i64) (.pr (.int .i64) .unit))) .unit)))) (.pr (.st (.pr (.int .i64) (.pr (.int .i64) (.pr (.st (.pr (.int .i64) (.pr (.int .i64) .unit))) .unit)))) (.pr (.st (.pr (.int .i64) (.pr (.int .i64) (.pr (.st (.pr (.int .i64) (.pr (.int .i64) .unit))) .unit)))) (.pr (.st (.pr (.int .i64) (.pr (.int .i64) (.pr (.st (.pr (.int .i64) (.pr (.int .i64) .unit))) .unit)))) .unit))))))))))))))))))))))))))))))))) (.pr (.int .i64) (.pr (.sl (.st (.pr (.int .i64) (.pr (.int .i64) .unit)))) (.pr (.sl (.st (.pr .str (.pr (.int .i64) (.pr (.st (.pr (.int .i64) (.pr (.int .i64) .unit))) (.pr (.int .i64) .unit)))))) (.pr (.sl (.sl (.st (.pr .str (.pr (.int .i64) (.pr (.st (.pr (.int .i64) (.pr (.int .i64) .unit))) (.pr (.int .i64) .unit))))))) (.pr (.sl (.st (.pr (.int .i64) (.pr (.int .i64) .unit)))) (.pr .bool (.pr .bool (.pr (.int .i64) (.pr .str (.pr (.int .i64) (.pr .bool (.pr (.int .i64) (.pr (.sl (.st (.pr (.int .i64) (.pr (.int .i64) .unit)))) (.pr (.sl (.sl (.st (.pr .str (.pr (.int .i64) (.pr (.st (.pr (.int .i64) (.pr (.int .i64) .unit))) (.pr (.int .i64) .unit))))))) (.pr .bool .unit)))))))))))))))))))))))))
theorem hidL {p : Prop} (h : p) : Hid p := h
theorem hb_back {C : Cx} {w w' : World} {hs : List Chunk} {I F : World → Prop} (hb : Hb C w [] I) (h : Hb (C.sub w [] []) w' hs F) : Hb C w' hs F := by
 have := Hb.back (ks := []) (ds := []) hb h
 rw [List.append_nil] at this
 exact this.imp fun _ h => h.2
theorem step_none {a : Option VmF.den} {e : Int} (he : vm_Machine__Step a = some e) {C : Cx} {φ : Phi} {v : Value} {w : World} (hr : Rp φ (.op VmF) a [v] []) (hb : Hb C w [] (Inv GG φ)) :
  Calls Tryz.prog 16 #[v] w fun x w' => x = .returned (.int .i64 e) ∧ ∃ φ', φ.le φ' ∧ Hb C w' [] (Inv GG φ') := by
 refine (vm_Machine__Step_ok.ok a e he (C.sub w [] []) φ [v] [] [] (ArgsR.val (t := .op VmF) (r := []) (cs := [v]) (h := []) (hs := []) rfl hr .nil) (Hb.pass (ks := []) (ds := []) hb)).mono ?_
 rintro x w' ⟨vv, φ', h1, h2, rfl, hle, hb', ⟨us, t1, rfl⟩, hobs⟩
 cases hobs
 have t1 : TupR φ' [⟨.int .i64, e⟩] us h1 := t1
 cases t1 with
 | cons r1 r2 r3 =>
 cases r3
 obtain ⟨rfl, rfl⟩ := r2
 exact ⟨rfl, φ', hle, hb_back hb (by simpa using hb')⟩
noncomputable def vm_Machine__Run0 (a : Option VmF.den) (_ : Int) : Option Int := (vm_Machine__Step a).bind fun e => if e = 0 then none else some 0
set_option maxHeartbeats 2000000 in
set_option maxRecDepth 1000000 in
theorem run_none {a : Option VmF.den} {n : Int} {r : Int} (hz : vm_Machine__Run0 a n = some r) {C : Cx} {φ : Phi} {v : Value} {w : World} (hr : Rp φ (.op VmF) a [v] []) (hb : Hb C w [] (Inv GG φ)) :
  Calls Tryz.prog 28 #[v, .int .i64 n] w fun x w' => x = .returned (.int .i64 r) ∧ ∃ φ', φ.le φ' ∧ Hb C w' [] (Inv GG φ') := by
 obtain ⟨e, he, hz⟩ := Option.bind_eq_some_iff.1 hz
 split at hz
 case isTrue => cases hz
 case isFalse he0 =>
 injection hz with hz
 subst hz
 have hcall := hidL fun φ1 w1 (h1 : φ.le φ1) (h2 : Hb C w1 [] (Inv GG φ1)) => step_none he (hr.mono h1) h2
 have hv : v = .pointer none ∨ ∃ ad, v = .pointer (some ad) := by
  cases a with
  | none => obtain ⟨_, h⟩ := hr; injection h with h; exact .inl h
  | some y => obtain ⟨_, ad, _, h, _⟩ := hr; injection h with h; exact .inr ⟨ad, h⟩
 have HB := hidL hb
 have E0 : (e == 0) = false := by simpa using he0
 have hrun : Hid (∀ w1, Hb C w1 [] (Inv GG φ) → Calls Tryz.prog 59 #[.func (.func 16) #[v] #[], .int .i64 n] w1 fun x w' => x = .returned (.int .i64 0) ∧ ∃ φ', φ.le φ' ∧ Hb C w' [] (Inv GG φ')) := hidL fun w1 hb1 => by
  have HB1 := hidL hb1
  clear hb1 HB hb hr he
  go_enter Tryz.func59, Tryz.ntmps59
  go_wp2_with fail
  go_loopw [5] (fun i wr => i = .int .i64 0 ∧ Hid (∃ φ2, φ.le φ2 ∧ Hb C wr [] (Inv GG φ2))) (fun _ _ => 0)
  case atStart => exact ⟨rfl, φ, φ.le_refl, HB1.out⟩
  case round =>
   obtain ⟨rfl, hK⟩ := hrel
   obtain ⟨φ2, hle2, hb2⟩ := hK.out
   have HL2 := hidL hle2
   have HB2 := hidL hb2
   have hc2 := hidL (hcall.out φ2 wr hle2 hb2)
   clear hK hb2 hle2
   by_cases hn : 0 < n
   ·have hn1 : ((0 : Int) < n) = True := eq_true hn
    go_wp2_with (go_at_call 16; refine hc2.out.mono ?_)
    rintro x w2 ⟨rfl, φ3, hle3, hb3⟩
    have HL3 := hidL (Phi.le_trans HL2.out hle3)
    have HB3 := hidL hb3
    clear hle3 hb3 hc2
    go_wp2
    go_ret
    exact ⟨rfl, φ3, HL3.out, HB3.out⟩
   ·have hn1 : ((0 : Int) < n) = False := eq_false hn
    go_wp2
    go_ret
    exact ⟨rfl, φ2, HL2.out, HB2.out⟩
 clear hr he hb hcall
 rcases hv with rfl | ⟨ad, rfl⟩
 ·go_enter Tryz.func28, Tryz.ntmps28
  go_wp2_with (go_at_call 59; refine (hrun.out _ HB.out).mono ?_)
  rintro x w1 ⟨rfl, hfin⟩
  have HF := hidL hfin
  clear hfin
  go_wp2
  go_ret
  exact ⟨rfl, HF.out⟩
 ·go_enter Tryz.func28, Tryz.ntmps28
  go_wp2_with (go_at_call 59; refine (hrun.out _ HB.out).mono ?_)
  rintro x w1 ⟨rfl, hfin⟩
  have HF := hidL hfin
  clear hfin
  go_wp2
  go_ret
  exact ⟨rfl, HF.out⟩
noncomputable def vm_Machine__Run0Ent : Nat × Entry := (28, ⟨[.val (.op VmF), .val (.int .i64)], [.int .i64], fun z => vm_Machine__Run0 z.1 z.2⟩)
theorem vm_Machine__Run0_ok : EntryOk Tryz.prog GG 28 vm_Machine__Run0Ent.2 := by
 refine ⟨GoFn.mk Tryz.f28 (by kernel_rfl) (by kernel_rfl) (by kernel_rfl), fun t h => ?_, fun z r hz C φ vals gs hs ha hb => ?_⟩
 ·have h : Par.val t ∈ ([.val (.op VmF), .val (.int .i64)] : List Par) := h
  simp only [List.mem_cons, Par.val.injEq, List.not_mem_nil, or_false] at h
  rcases h with rfl | rfl <;> rfl
 ·obtain ⟨a, n⟩ := z
  cases ha with
  | val h1 h2 h3 =>
  cases h3 with
  | val h4 h5 h6 =>
  cases h6
  obtain ⟨rfl, rfl⟩ := h5
  have h2 : Rp φ (.op VmF) a _ _ := h2
  have hnil := h2.1
  subst hnil
  have hone : ∃ v, ‹List Value› = [v] := by
   cases a with
   | none => obtain ⟨_, h⟩ := h2; exact ⟨_, h⟩
   | some y => obtain ⟨_, ad, _, h, _⟩ := h2; exact ⟨_, h⟩
  obtain ⟨v, rfl⟩ := hone
  refine (run_none (a := a) (n := n) (r := r) hz h2 hb).mono ?_
  rintro x w' ⟨rfl, φ', hle, hb'⟩
  exact ⟨_, φ', [], [], rfl, hle, hb', ⟨[.int .i64 r], TupR.cons (t := .int .i64) (x := r) (cs := [.int .i64 r]) (h := []) (hs := []) rfl ⟨rfl, rfl⟩ .nil, rfl⟩, .nil⟩
end Go.Fn
open Go Go.Lf
set_option maxRecDepth 10000
namespace Go.Fn
abbrev vY0 : Go.Lf.Ty := (.pr (.int .i64) (.pr (.int .i64) .unit))
abbrev vT1 : Type := (List ((Int) × ((Int) × ((Int) × (Unit)))))
abbrev vT2 : Type := ((Int) × ((Int) × ((List (Int)) × (Unit))))
abbrev vY3 : Go.Lf.Ty := (.pr (.int .i64) (.pr (.sl (.int .i64)) .unit))
abbrev vT4 : Type := ((Int) × (((Int) × ((Int) × (Unit))) × (Unit)))
abbrev vT5 : Type := (((Int) × ((Int) × (Unit))) × ((Int) × (Unit)))
abbrev vY6 : Go.Lf.Ty := (.st (.pr .bool (.pr (.int .i64) (.pr .str .unit))))
abbrev vY7 : Go.Lf.Ty := (.st (.pr (.int .i64) vY0))
abbrev vY8 : Go.Lf.Ty := (.pr (.int .i64) (.pr (.int .i64) (.pr .str (.pr (.sl (.int .i64)) .unit))))
abbrev vT9 : Type := ((List (UInt8)) × ((Int) × vT5))
abbrev vY10 : Go.Lf.Ty := (.pr (.st vY0) (.pr (.int .i64) .unit))
abbrev vY11 : Go.Lf.Ty := (.pr (.int .i64) (.pr (.int .i64) vY0))
abbrev vY12 : Go.Lf.Ty := (.pr (.int .i64) (.pr (.st vY0) .unit))
abbrev vY13 : Go.Lf.Ty := (.pr (.int .i64) (.pr (.int .i64) vY3))
abbrev vY14 : Go.Lf.Ty := (.st (.pr (.int .i64) vY12))
abbrev vY15 : Go.Lf.Ty := (.st (.pr .str (.pr .str (.pr vY7 .unit))))
abbrev vY16 : Go.Lf.Ty := (.pr .str (.pr (.int .i64) vY10))
abbrev vY17 : Go.Lf.Ty := (.st (.pr (.int .i64) vY13))
abbrev vT18 : Type := ((List (List vT9)) × ((Bool) × (Unit)))
abbrev vT19 : Type := (((Int) × vT4) × (((Int) × vT4) × (Unit)))
abbrev vY20 : Go.Lf.Ty := (.pr (.sl (.sl (.st vY16))) (.pr .bool .unit))
abbrev vT21 : Type := ((List ((Int) × ((Int) × (Unit)))) × vT18)
abbrev vT22 : Type := ((List (UInt8)) × ((Int) × ((Bool) × ((Int) × vT21))))
abbrev vY23 : Go.Lf.Ty := (.pr (.sl (.st vY0)) vY20)
abbrev vY24 : Go.Lf.Ty := (.pr vY14 (.pr vY14 .unit))
abbrev vY25 : Go.Lf.Ty := (.pr .bool (.pr (.int .i64) vY23))
abbrev vT26 : Type := (((Int) × vT4) × (((Int) × vT4) × vT19))
abbrev vY27 : Go.Lf.Ty := (.pr .str (.pr (.int .i64) vY25))
abbrev vT28 : Type := ((List ((Int) × ((Int) × (Unit)))) × ((Bool) × ((Bool) × ((Int) × vT22))))
abbrev vY29 : Go.Lf.Ty := (.pr .bool (.pr (.int .i64) vY27))
abbrev vY30 : Go.Lf.Ty := (.pr (.sl (.st vY0)) (.pr .bool vY29))
abbrev vT31 : Type := (((Int) × vT4) × (((Int) × vT4) × vT26))
abbrev vT32 : Type := ((List vT9) × ((List (List vT9)) × vT28))
abbrev vT33 : Type := ((List ((Int) × ((Int) × (Unit)))) × vT32)
abbrev vY34 : Go.Lf.Ty := (.pr (.sl (.sl (.st vY16))) vY30)
abbrev vT35 : Type := (((Int) × vT4) × (((Int) × vT4) × vT31))
abbrev vY36 : Go.Lf.Ty := (.pr vY14 (.pr vY14 (.pr vY14 vY24)))
abbrev vY37 : Go.Lf.Ty := (.pr (.int .i64) (.pr vY6 (.pr (.sl vY14) (.pr (.sl (.int .i64)) (.pr (.sl (.st vY0)) (.pr (.int .i64) (.pr (.sl (.st vY16)) vY23)))))))
abbrev vT38 : Type := (((Int) × vT4) × (((Int) × vT4) × vT35))
abbrev vY39 : Go.Lf.Ty := (.pr (.sl (.st vY0)) (.pr (.sl (.st vY16)) vY34))
abbrev vT40 : Type := (((Int) × vT4) × (((Int) × vT4) × vT38))
abbrev vY41 : Go.Lf.Ty := (.pr vY14 (.pr vY14 (.pr vY14 vY36)))
abbrev vT42 : Type := (((Int) × vT4) × (((Int) × vT4) × vT40))
abbrev vT43 : Type := (((Int) × vT4) × (((Int) × vT4) × vT42))
abbrev vY44 : Go.Lf.Ty := (.pr (.int .i64) (.pr (.sl vY17) (.pr (.sl (.st vY8)) (.pr (.int .i64) (.pr .bool (.pr (.sl (.sl (.st vY16))) (.pr .bool vY37)))))))
abbrev vT45 : Type := (((Int) × vT4) × (((Int) × vT4) × vT43))
abbrev vY46 : Go.Lf.Ty := (.pr vY14 (.pr vY14 (.pr vY14 vY41)))
abbrev vT47 : Type := (((Int) × vT4) × (((Int) × vT4) × vT45))
abbrev vT48 : Type := (((Int) × vT4) × (((Int) × vT4) × vT47))
abbrev vT49 : Type := (((Int) × vT4) × (((Int) × vT4) × vT48))
abbrev vY50 : Go.Lf.Ty := (.pr vY14 (.pr vY14 (.pr vY14 vY46)))
abbrev vT51 : Type := (((Int) × vT4) × (((Int) × vT4) × vT49))
abbrev vT52 : Type := (((Int) × vT4) × (((Int) × vT4) × vT51))
abbrev vY53 : Go.Lf.Ty := (.pr vY14 (.pr vY14 (.pr vY14 vY50)))
abbrev vT54 : Type := (((Int) × vT4) × (((Int) × vT4) × vT52))
abbrev vT55 : Type := (((Int) × vT4) × (((Int) × vT4) × vT54))
abbrev vY56 : Go.Lf.Ty := (.pr vY14 (.pr vY14 (.pr vY14 vY53)))
abbrev vY57 : Go.Lf.Ty := (.pr vY14 (.pr vY14 (.pr vY14 vY56)))
abbrev vT58 : Type := ((Int) × ((Bool) × (vT55 × ((Int) × vT33))))
abbrev vT59 : Type := ((List (UInt8)) × ((Int) × ((Int) × vT58)))
abbrev vT60 : Type := ((List ((Int) × ((Int) × vT2))) × vT59)
abbrev vY61 : Go.Lf.Ty := (.pr vY14 (.pr vY14 (.pr vY14 vY57)))
abbrev vY62 : Go.Lf.Ty := (.pr vY14 (.pr vY14 (.pr vY14 vY61)))
abbrev vY63 : Go.Lf.Ty := (.pr vY14 (.pr vY14 (.pr vY14 vY62)))
abbrev vY64 : Go.Lf.Ty := (.pr (.st vY63) (.pr (.int .i64) vY39))
abbrev vY65 : Go.Lf.Ty := (.pr (.int .i64) (.pr .bool vY64))
abbrev vY66 : Go.Lf.Ty := (.pr (.int .i64) (.pr (.int .i64) vY65))
abbrev vY67 : Go.Lf.Ty := (.pr (.sl vY17) (.pr .str vY66))
abbrev vY68 : Go.Lf.Ty := (.pr (.int .i64) (.pr (.sl vY7) vY67))
def TysV : List (Nat × Go.Lf.TyI) := [(2, ⟨(.int .i64), 0, 0⟩),
 (3, ⟨(.int .i64), 0, 0⟩),
 (4, ⟨.bool, 0, 0⟩),
 (5, ⟨(.int .u8), 0, 0⟩),
 (6, ⟨(.int .u8), 0, 0⟩),
 (7, ⟨(.st (.pr (.int .i64) (.pr (.int .i64) (.pr .bool (.pr (.int .u8) .unit))))), 0, 0⟩),
 (8, ⟨(.st (.pr (.int .i64) (.pr (.int .i64) (.pr .bool (.pr (.int .u8) .unit))))), 0, 0⟩),
 (9, ⟨.str, 0, 0⟩),
 (10, ⟨.str, 0, 0⟩),
 (11, ⟨.str, 0, 0⟩),
 (12, ⟨(.int .u64), 0, 0⟩),
 (13, ⟨(.st (.pr .str (.pr (.int .u64) .unit))), 0, 0⟩),
 (14, ⟨(.st (.pr .str (.pr (.int .u64) .unit))), 0, 0⟩),
 (21, ⟨(.int .i32), 0, 0⟩),
 (22, ⟨(.sl vY15), 72, 56⟩),
 (23, ⟨(.sl (.int .u8)), 5, 1⟩),
 (24, ⟨(.sl (.sl (.st vY16))), 50, 24⟩),
 (25, ⟨(.sl (.st vY11)), 93, 32⟩),
 (26, ⟨(.sl (.st vY0)), 80, 16⟩),
 (27, ⟨(.st (.pr (.sl (.sl (.st vY16))) (.pr (.sl (.st vY11)) (.pr (.sl (.st vY0)) (.pr .bool .unit))))), 0, 0⟩),
 (28, ⟨(.st (.pr (.sl (.sl (.st vY16))) (.pr (.sl (.st vY11)) (.pr (.sl (.st vY0)) (.pr .bool .unit))))), 0, 0⟩),
 (29, ⟨(.int .i64), 0, 0⟩),
 (44, ⟨(.sl vY17), 64, 56⟩),
 (45, ⟨(.sl (.st vY8)), 108, 56⟩),
 (46, ⟨vY6, 0, 0⟩),
 (47, ⟨vY6, 0, 0⟩),
 (48, ⟨(.sl vY14), 76, 32⟩),
 (49, ⟨(.sl (.int .i64)), 3, 8⟩),
 (50, ⟨(.sl (.st vY16)), 78, 48⟩),
 (51, ⟨(.sl (.st vY0)), 201, 16⟩),
 (52, ⟨(.st (.pr (.sl vY15) vY44)), 0, 0⟩),
 (53, ⟨(.st (.pr (.sl vY15) vY44)), 0, 0⟩),
 (62, ⟨(.int .i64), 0, 0⟩),
 (63, ⟨vY17, 0, 0⟩),
 (64, ⟨vY17, 0, 0⟩),
 (69, ⟨vY7, 0, 0⟩),
 (70, ⟨vY7, 0, 0⟩),
 (71, ⟨vY15, 0, 0⟩),
 (72, ⟨vY15, 0, 0⟩),
 (73, ⟨(.st vY0), 0, 0⟩),
 (74, ⟨(.st vY0), 0, 0⟩),
 (75, ⟨vY14, 0, 0⟩),
 (77, ⟨(.st vY16), 0, 0⟩),
 (78, ⟨(.st vY16), 0, 0⟩),
 (83, ⟨(.st vY63), 76, 32⟩),
 (84, ⟨(.sl (.st vY0)), 125, 16⟩),
 (86, ⟨(.st vY68), 0, 0⟩),
 (180, ⟨(.sl .bool), 4, 1⟩),
 (181, ⟨(.sl (.st (.pr .bool vY11))), 241, 40⟩),
 (182, ⟨(.st (.pr .bool (.pr (.sl .bool) (.pr (.sl (.st (.pr .bool vY11))) (.pr .bool .unit))))), 0, 0⟩),
 (38, ⟨(.op (.st vY68)), 0, 0⟩),
 (87, ⟨(.sl (.op (.st vY68))), 38, 8⟩),
 (113, ⟨(.ptr vY14), 0, 0⟩),
 (165, ⟨(.ptr (.st (.pr (.sl (.int .u8)) vY0))), 0, 0⟩),
 (198, ⟨(.ptr (.st vY0)), 0, 0⟩),
 (220, ⟨(.ptr (.st (.pr (.int .i64) vY11))), 0, 0⟩),
 (227, ⟨(.ptr (.st (.pr (.int .i64) (.pr (.sl (.sl (.st vY16))) (.pr (.sl (.st vY16)) (.pr (.int .i64) (.pr (.sl (.st vY16)) .unit))))))), 0, 0⟩)]
theorem TysV_ok : ∀ id i, Go.Lf.look TysV id = some i → Go.Lf.TyOk Go.Proofs.Tryz.prog id i := Go.Lf.tysB_ok (by kernel_rfl)
def TysVEq : List (Nat × Go.Lf.Ty) := []
theorem TysVEq_ok : ∀ id t, Go.Lf.look TysVEq id = some t → Go.Lf.eqTop Go.Proofs.Tryz.prog id t = true := Go.Lf.eqsB_ok (by kernel_rfl)
def TysVIm : List (Nat × List (Nat × Bool)) := []
theorem TysVIm_ok : ∀ a l, Go.Lf.look TysVIm a = some l → Go.Lf.ImOk Go.Proofs.Tryz.prog a l := Go.Lf.imsB_ok (by kernel_rfl)
noncomputable def foliolaw18_VmNoneCtx : Go.Lf.Ctx := ⟨79, TysV, [foliolaw18_awakeEnt, vm_Machine__StepEnt, vm_Machine__LineEnt, vm_Machine__HaltedEnt, vm_Machine__AtEnt, vm_Machine__StepsEnt, vm_Machine__StackEnt, vm_Machine__LinesEnt, vm_Machine__LaidEnt, vm_Machine__Run0Ent, vm_Machine__CloneEnt], [], [], [(12, (.ptr (.st vY68)))], [], TysVEq, [], none, TysVIm, []⟩
noncomputable def foliolaw18_VmNoneCode : Go.Code := (Go.Proofs.Tryz.f7.body).getD .skip
def foliolaw18_VmNoneAnn : Go.Lf.Ann := (.seq .no (.seq .no (.seq (.seq .no (.loop ⟨[0, 14], [], [(15, (.int .i64)), (13, (.rw 38 (.op (.st vY68))))], [], []⟩ (.more (.ext 0) ⟨[], [], [], [], []⟩ (.one .ret ⟨[], [], [(2, .bool)], [], []⟩)) (.seq .no (.seq .no (.seq (.seq .no (.seq .no (.seq .no (.seq (.join (.one .nrm ⟨[0, 14, 15], [], [(76, .bool), (13, (.rw 38 (.op (.st vY68))))], [], []⟩) .no) .no)))) .no))))) .no)))
noncomputable def foliolaw18_VmNone (a0 : Int) : Option (Bool) :=
 (Go.Lf.loopC (σ := (Int) × (List (Option ((Int) × (vT1 × vT60))))) (κ := (Unit) ⊕ (Bool)) (fun z1 =>
   bif (decide (z1.1 < (((List.length ((none : Option ((Int) × (vT1 × vT60))) :: ((some ((0 : Int), (([] : List ((Int) × ((Int) × ((Int) × (Unit))))), (([] : List ((Int) × ((Int) × vT2))), (([] : List (UInt8)), ((0 : Int), ((0 : Int), ((0 : Int), (false, ((((0 : Int), ((0 : Int), (((0 : Int), ((0 : Int), ())), ()))), (((0 : Int), ((0 : Int), (((0 : Int), ((0 : Int), ())), ()))), (((0 : Int), ((0 : Int), (((0 : Int), ((0 : Int), ())), ()))), (((0 : Int), ((0 : Int), (((0 : Int), ((0 : Int), ())), ()))), (((0 : Int), ((0 : Int), (((0 : Int), ((0 : Int), ())), ()))), (((0 : Int), ((0 : Int), (((0 : Int), ((0 : Int), ())), ()))), (((0 : Int), ((0 : Int), (((0 : Int), ((0 : Int), ())), ()))), (((0 : Int), ((0 : Int), (((0 : Int), ((0 : Int), ())), ()))), (((0 : Int), ((0 : Int), (((0 : Int), ((0 : Int), ())), ()))), (((0 : Int), ((0 : Int), (((0 : Int), ((0 : Int), ())), ()))), (((0 : Int), ((0 : Int), (((0 : Int), ((0 : Int), ())), ()))), (((0 : Int), ((0 : Int), (((0 : Int), ((0 : Int), ())), ()))), (((0 : Int), ((0 : Int), (((0 : Int), ((0 : Int), ())), ()))), (((0 : Int), ((0 : Int), (((0 : Int), ((0 : Int), ())), ()))), (((0 : Int), ((0 : Int), (((0 : Int), ((0 : Int), ())), ()))), (((0 : Int), ((0 : Int), (((0 : Int), ((0 : Int), ())), ()))), (((0 : Int), ((0 : Int), (((0 : Int), ((0 : Int), ())), ()))), (((0 : Int), ((0 : Int), (((0 : Int), ((0 : Int), ())), ()))), (((0 : Int), ((0 : Int), (((0 : Int), ((0 : Int), ())), ()))), (((0 : Int), ((0 : Int), (((0 : Int), ((0 : Int), ())), ()))), (((0 : Int), ((0 : Int), (((0 : Int), ((0 : Int), ())), ()))), (((0 : Int), ((0 : Int), (((0 : Int), ((0 : Int), ())), ()))), (((0 : Int), ((0 : Int), (((0 : Int), ((0 : Int), ())), ()))), (((0 : Int), ((0 : Int), (((0 : Int), ((0 : Int), ())), ()))), (((0 : Int), ((0 : Int), (((0 : Int), ((0 : Int), ())), ()))), (((0 : Int), ((0 : Int), (((0 : Int), ((0 : Int), ())), ()))), (((0 : Int), ((0 : Int), (((0 : Int), ((0 : Int), ())), ()))), (((0 : Int), ((0 : Int), (((0 : Int), ((0 : Int), ())), ()))), (((0 : Int), ((0 : Int), (((0 : Int), ((0 : Int), ())), ()))), (((0 : Int), ((0 : Int), (((0 : Int), ((0 : Int), ())), ()))), (((0 : Int), ((0 : Int), (((0 : Int), ((0 : Int), ())), ()))), (((0 : Int), ((0 : Int), (((0 : Int), ((0 : Int), ())), ()))), ())))))))))))))))))))))))))))))))), ((0 : Int), (([] : List ((Int) × ((Int) × (Unit)))), (([] : List vT9), (([] : List (List vT9)), (([] : List ((Int) × ((Int) × (Unit)))), (false, (false, ((0 : Int), (([] : List (UInt8)), ((0 : Int), (false, ((0 : Int), (([] : List ((Int) × ((Int) × (Unit)))), (([] : List (List vT9)), (false, ()))))))))))))))))))))))))) :: ([] : List (Option ((Int) × (vT1 × vT60))))))) : Nat) : Int))) then ((Go.Lf.idx z1.2 z1.1)).bind fun r2 =>
   ((Go.Fn.vm_Machine__Line r2 a0)).bind fun r3 =>
   ((Go.Fn.vm_Machine__Laid r2)).bind fun r4 =>
   (((Go.Fn.vm_Machine__Step r2)).bind fun r5 =>
    bif (!(decide ((r5 : Int) ≠ (182 : Int)))) then ((Go.Fn.vm_Machine__Run0 r2 a0)).bind fun r6 =>
    bif (!(decide ((r6 : Int) ≠ (0 : Int)))) then ((Go.Fn.vm_Machine__At r2)).bind fun r7 =>
    bif (!(decide ((r7 : Int) ≠ (0 : Int)))) then ((Go.Fn.vm_Machine__Steps r2)).bind fun r8 =>
    bif (!(decide ((r8 : Int) ≠ (0 : Int)))) then ((Go.Fn.vm_Machine__Halted r2)).bind fun r9 =>
    bif (!r9) then ((Go.Fn.vm_Machine__Stack r2)).bind fun r10 =>
    bif (!(decide (((((List.length r10) : Nat) : Int) : Int) ≠ (0 : Int)))) then ((Go.Fn.vm_Machine__Lines r2)).bind fun r11 =>
    bif (!(decide ((r11 : Int) ≠ (0 : Int)))) then bif (!(decide ((r3.2 : Int) ≠ (182 : Int)))) then bif (!(decide ((r4.2 : Int) ≠ (182 : Int)))) then ((Go.Fn.vm_Machine__Clone r2)).bind fun r12 =>
    some ((Option.isSome r12), z1.2)
    else some (true, z1.2)
    else some (true, z1.2)
    else some (true, z1.2)
    else some (true, z1.2)
    else some (true, z1.2)
    else some (true, z1.2)
    else some (true, z1.2)
    else some (true, z1.2)
    else some (true, z1.2)).bind fun r13 =>
   bif r13.1 then some (.inr (.inr false))
   else some (.inl ((Go.IntKind.wrap .i64 (z1.1 + (1 : Int))), r13.2))
   else some (.inr (.inl ()))) ((0 : Int), ((none : Option ((Int) × (vT1 × vT60))) :: ((some ((0 : Int), (([] : List ((Int) × ((Int) × ((Int) × (Unit))))), (([] : List ((Int) × ((Int) × vT2))), (([] : List (UInt8)), ((0 : Int), ((0 : Int), ((0 : Int), (false, ((((0 : Int), ((0 : Int), (((0 : Int), ((0 : Int), ())), ()))), (((0 : Int), ((0 : Int), (((0 : Int), ((0 : Int), ())), ()))), (((0 : Int), ((0 : Int), (((0 : Int), ((0 : Int), ())), ()))), (((0 : Int), ((0 : Int), (((0 : Int), ((0 : Int), ())), ()))), (((0 : Int), ((0 : Int), (((0 : Int), ((0 : Int), ())), ()))), (((0 : Int), ((0 : Int), (((0 : Int), ((0 : Int), ())), ()))), (((0 : Int), ((0 : Int), (((0 : Int), ((0 : Int), ())), ()))), (((0 : Int), ((0 : Int), (((0 : Int), ((0 : Int), ())), ()))), (((0 : Int), ((0 : Int), (((0 : Int), ((0 : Int), ())), ()))), (((0 : Int), ((0 : Int), (((0 : Int), ((0 : Int), ())), ()))), (((0 : Int), ((0 : Int), (((0 : Int), ((0 : Int), ())), ()))), (((0 : Int), ((0 : Int), (((0 : Int), ((0 : Int), ())), ()))), (((0 : Int), ((0 : Int), (((0 : Int), ((0 : Int), ())), ()))), (((0 : Int), ((0 : Int), (((0 : Int), ((0 : Int), ())), ()))), (((0 : Int), ((0 : Int), (((0 : Int), ((0 : Int), ())), ()))), (((0 : Int), ((0 : Int), (((0 : Int), ((0 : Int), ())), ()))), (((0 : Int), ((0 : Int), (((0 : Int), ((0 : Int), ())), ()))), (((0 : Int), ((0 : Int), (((0 : Int), ((0 : Int), ())), ()))), (((0 : Int), ((0 : Int), (((0 : Int), ((0 : Int), ())), ()))), (((0 : Int), ((0 : Int), (((0 : Int), ((0 : Int), ())), ()))), (((0 : Int), ((0 : Int), (((0 : Int), ((0 : Int), ())), ()))), (((0 : Int), ((0 : Int), (((0 : Int), ((0 : Int), ())), ()))), (((0 : Int), ((0 : Int), (((0 : Int), ((0 : Int), ())), ()))), (((0 : Int), ((0 : Int), (((0 : Int), ((0 : Int), ())), ()))), (((0 : Int), ((0 : Int), (((0 : Int), ((0 : Int), ())), ()))), (((0 : Int), ((0 : Int), (((0 : Int), ((0 : Int), ())), ()))), (((0 : Int), ((0 : Int), (((0 : Int), ((0 : Int), ())), ()))), (((0 : Int), ((0 : Int), (((0 : Int), ((0 : Int), ())), ()))), (((0 : Int), ((0 : Int), (((0 : Int), ((0 : Int), ())), ()))), (((0 : Int), ((0 : Int), (((0 : Int), ((0 : Int), ())), ()))), (((0 : Int), ((0 : Int), (((0 : Int), ((0 : Int), ())), ()))), (((0 : Int), ((0 : Int), (((0 : Int), ((0 : Int), ())), ()))), ())))))))))))))))))))))))))))))))), ((0 : Int), (([] : List ((Int) × ((Int) × (Unit)))), (([] : List vT9), (([] : List (List vT9)), (([] : List ((Int) × ((Int) × (Unit)))), (false, (false, ((0 : Int), (([] : List (UInt8)), ((0 : Int), (false, ((0 : Int), (([] : List ((Int) × ((Int) × (Unit)))), (([] : List (List vT9)), (false, ()))))))))))))))))))))))))) :: ([] : List (Option ((Int) × (vT1 × vT60))))))) : Option ((Unit) ⊕ (Bool))).bind fun r14 =>
 Go.Lf.onSum r14 (fun _ =>
 (Go.Fn.foliolaw18_awake).bind fun r16 =>
 some r16) (fun b17 =>
 some b17)
theorem foliolaw18_VmNone_eq (a0 : Int) : Go.Lf.fnE foliolaw18_VmNoneCtx foliolaw18_VmNoneCode foliolaw18_VmNoneAnn [.val (.int .i64)] [.bool] [.tmp 2] (a0) = foliolaw18_VmNone a0 := by kernel_rfl
noncomputable def foliolaw18_VmNoneEnt : Nat × Go.Lf.Entry := (7, ⟨[.val (.int .i64)], [.bool], fun z => foliolaw18_VmNone z⟩)
theorem foliolaw18_VmNone_ok : Go.Lf.EntryOk Go.Proofs.Tryz.prog GG 7 foliolaw18_VmNoneEnt.2 :=
 Go.Lf.fn_ok (c := foliolaw18_VmNoneCtx) (code := foliolaw18_VmNoneCode) (an := foliolaw18_VmNoneAnn) (slots := [.tmp 2]) (fn := Go.Proofs.Tryz.f7) (by kernel_rfl) ⟨TysV_ok, Go.Lf.FnsOk.look (.con foliolaw18_awake_ok (.con vm_Machine__Step_ok (.con vm_Machine__Line_ok (.con vm_Machine__Halted_ok (.con vm_Machine__At_ok (.con vm_Machine__Steps_ok (.con vm_Machine__Stack_ok (.con vm_Machine__Lines_ok (.con vm_Machine__Laid_ok (.con vm_Machine__Run0_ok (.con vm_Machine__Clone_ok .nil))))))))))), Go.Lf.IpsOk.look .nil, TysVEq_ok, TysVIm_ok, Go.Lf.IvsOk.look .nil, Go.Lf.FxsOk.look .nil⟩ (by kernel_rfl) (by kernel_rfl) (by kernel_rfl) (by kernel_rfl) (by kernel_rfl) (Nat.le_of_ble_eq_true rfl) (by simp [Go.Lf.Ty.top]) (by simp [Go.Lf.Ty.top]) fun z r h => (foliolaw18_VmNone_eq z).trans h
end Go.Fn
/- A machine that there is not: the law's value. -/
namespace Go.Fn
open Go Go.Lf Go.Proofs Go.Shelf Go.RowKit
theorem tabs_below {w w' : World} (h : Lib.Utf8Tabs 0 1 w) (hb : Below w.heap.size w w') : Lib.Utf8Tabs 0 1 w' := by
 have key : ∀ (g o : Nat) (v : Value), w.cell? ⟨g, o, none⟩ = some v → w'.cell? ⟨g, o, none⟩ = some v := fun g o v hv => by
  have hlt : g < w.heap.size := by
   rcases Nat.lt_or_ge g w.heap.size with h1 | h1
   ·exact h1
   ·simp [World.cell?, Array.getElem?_eq_none h1] at hv
  obtain ⟨_, _, _, _, h5⟩ := hb
  have := h5 g hlt
  unfold World.cell? at hv ⊢
  rw [this]
  exact hv
 exact ⟨fun c hc => key _ _ _ (h.1 c hc), fun i hi => ⟨key _ _ _ (h.2 i hi).1, key _ _ _ (h.2 i hi).2⟩⟩
set_option maxRecDepth 100000 in
theorem none_true (i : Int) : foliolaw18_VmNone i = some true := by
 unfold foliolaw18_VmNone
 rw [loopC_of (n := 3) (k := .inl ()) (by kernel_rfl)]
 rw [Option.bind_some]
 show (foliolaw18_awake).bind (fun r => some r) = _
 rw [awake]
 rfl
end Go.Fn
/-
  From a function's entry to a row's statement: the arguments are opened, nothing old has turned, so all reads as before.
-/
namespace Go.Lf
open Go Go.Eng Go.RowKit Go.ChangeShapes Go.WideShapes Go.ChangeMaps Go.ChangeAt
section
variable {H : Type} {enc : TypeId × Value → H} {P : Program}
def allRead (P : Program) (ts : List TypeId) : Bool := ts.all fun t => P.readableRec t && decide (t < P.types.size)
theorem trodAll_stay (hl : laidOutB P = true) {W W' : World} (hb : Below W.heap.size W W') : ∀ (ts : List TypeId) (vs : List Value) (ds : List (DataW H)) (ps : List MemPlace), allRead P ts = true →
  DataW.TrodAll enc P W 0 (fun _ => true) true ts vs ds ps → (∀ x ∈ ps, x.block < W.heap.size) → DataW.TrodAll enc P W' 0 (fun b => decide (b < W.heap.size)) true ts vs ds ps
 | [], [], [], _, _, h, _ => h
 | [], _ :: _, _, _, _, h, _ => h.elim
 | [], [], _ :: _, _, _, h, _ => h.elim
 | _ :: _, [], _, _, _, h, _ => h.elim
 | _ :: _, _ :: _, [], _, _, h, _ => h.elim
 | t :: ts, v :: vs, d :: ds, ps, hr, h, hlt => by
  obtain ⟨p, q, h1, h2, rfl⟩ := h
  simp only [allRead, List.all_cons, Bool.and_eq_true, decide_eq_true_eq] at hr
  exact ⟨p, q, Below.trod hl hr.1.1 hr.1.2 h1 hb (fun x hx => hlt x (List.mem_append_left _ hx)), trodAll_stay hl hb ts vs ds q hr.2 h2 (fun x hx => hlt x (List.mem_append_right _ hx)), rfl⟩
theorem law_post {f : Func} {s : ChangeSpec} {W W' : World} {args : Array Value} {ds gs : List (DataW H)} {before : List MemPlace} {tb : TypeId} (hl : laidOutB P = true) (hr : allRead P f.params.toList = true) (hv : s.vars = [])
  (hres : f.resultTypes = #[tb]) (htb : P.underlying tb = some .bool) (hW : DataW.Whole enc P f.params.toList s.vars false W args.toList ds gs before)
  (hs : s.fn H (ds ++ gs) = { results := [.lit (.bool true)], args := ds, vars := [] }) (hb : Below W.heap.size W W') : s.post enc P f false true false false W args (.bool true) W' := by
 have hlt : ∀ p ∈ before, p.block < W.heap.size := fun p hp => hW.lt p hp
 have hW0 := hW
 obtain ⟨p, q, hA, hV, hps, _, _⟩ := hW
 rw [hv] at hV
 obtain ⟨rfl, rfl⟩ := trodVars_none hV
 refine ⟨ds, [], before, [], p, [], hW0, ?_, ?_, ?_, hb.frame _, fun h => by cases h⟩
 ·rw [hs, hres]
  exact trodAll_mk1 (shut_bool htb true)
 ·rw [hs]
  exact trodAll_stay hl hb _ _ _ _ hr hA (fun x hx => hlt x (by rw [hps]; exact List.mem_append_left _ hx))
 ·rw [hs, hv]
  rfl
end
def start (W : World) : Cx := ⟨W, [], fun _ => none⟩
def Lasts (W : World) (I : World → Prop) : Prop := ∀ w', Below W.heap.size W w' → I w'
theorem Lasts.and {W : World} {I J : World → Prop} (h : Lasts W I) (k : Lasts W J) : Lasts W (fun w => I w ∧ J w) := fun w' hb => ⟨h w' hb, k w' hb⟩
theorem Lasts.of {W : World} {p : Prop} (h : p) : Lasts W (fun _ => p) := fun _ _ => h
theorem hb_start {W : World} {I : World → Prop} (h : Lasts W I) : Hb (start W) (start W).w0 [] I :=
 ⟨⟨rfl, rfl, rfl, Nat.le_refl _, fun _ _ _ => rfl, fun c hc => absurd hc (by simp [start]), fun c hc => absurd hc (by simp [start]), fun c hc => absurd hc (by simp), fun c hc => absurd hc (by simp), List.Pairwise.nil, fun k m hk => by cases hk⟩,
  fun w' hx => h w' ⟨hx.os, hx.tape, hx.output, hx.size, fun k hk => hx.block k hk rfl (fun c hc => absurd hc (by simp))⟩⟩
theorem cell_lt {W : World} {a : Addr} {v : Value} (h : W.cell? a = some v) : a.block < W.heap.size := by
 rcases Nat.lt_or_ge a.block W.heap.size with h1 | h1
 ·exact h1
 ·simp [World.cell?, Array.getElem?_eq_none h1] at h
def phiOf (W : World) : Phi := ⟨fun a => W.cell? a, fun _ => False⟩
theorem lasts_agree (W : World) : Lasts W (Agree (phiOf W)) := fun _ hb => ⟨fun _ _ h => (hb.cell (cell_lt h)).trans h, fun _ h => h.elim⟩
theorem lasts_var {P : Program} {W : World} {name : String} {cs : Array Value} (h : W.var? P name = some cs) : Lasts W (fun w => w.var? P name = some cs) := fun w' hb => by
 unfold World.var? at *
 cases hg : P.globalNamed name with
 | none => rw [hg] at h; simp at h
 | some g =>
  rw [hg] at h
  simp only [Option.bind_some] at *
  by_cases hlt : g < W.heap.size
  ·rw [hb.block g hlt]; exact h
  ·rw [Array.getElem?_eq_none (by omega)] at h; simp at h
theorem law_calls {P : Program} {G : World → Prop} {f : Nat} {e : Entry} {z : prodT (e.ps.map Par.ty)} {W : World} {vals : List Value} (he : EntryOk P G f e) (hr : e.rs = [.bool]) (_ho : outs e.ps = []) {r : prodT (e.rs ++ outs e.ps)} (hz : e.f z = some r) (ht : unProd (e.rs ++ outs e.ps) r = [⟨.bool, true⟩])
  (ha : ArgsR (phiOf W) e.ps z vals [] []) (hG : Lasts W G) : Calls P f vals.toArray W fun e W' => e = .returned (.bool true) ∧ Below W.heap.size W W' := by
 refine Calls.mono (he.ok z r hz (start W) (phiOf W) vals [] [] ha (hb_start (hG.and (lasts_agree W)))) ?_
 rintro x w' ⟨v, φ', h1, h2, rfl, _, hb, ⟨vs, hv, rfl⟩, _⟩
 rw [ht, hr] at hv
 refine ⟨?_, hb.hp.os, hb.hp.tape, hb.hp.output, hb.hp.size, fun k hk => hb.hp.keep k hk (by simp [start, free])⟩
 cases hv with
 | cons a1 a2 a3 =>
  cases a3
  obtain ⟨rfl, _⟩ := a2
  rfl
section
variable {H : Type} (enc : TypeId × Value → H) (P : Program) (W : World)
def Light (P : Program) (t : TypeId) (d : DataW H) : Prop := ∀ x ∈ d.weights P t, x ≤ reachBytes
end
def rnd (o a : Nat) : Nat := (o + a - 1) / a * a
def Ty.aln : Ty → Nat
 | .int k => k.bits / 8
 | .bool => 1
 | .unit => 1
 | .st t => t.aln
 | .pr a b => max a.aln b.aln
 | _ => 8
mutual
def Ty.byt : Ty → Nat
 | .int k => k.bits / 8
 | .bool => 1
 | .str => 16
 | .sl _ => 24
 | .rw _ _ => 24
 | .mr _ _ => 24
 | .it => 8
 | .itd => 8
 | .dead _ _ => 24
 | .eb _ _ => 16
 | .op _ => 8
 | .bx _ _ => 8
 | .on _ => 8
 | .fl _ => 8
 | .bo _ _ => 8
 | .bn => 8
 | .tr => 16
 | .ml _ _ _ => 24
 | .ptr _ => 8
 | .st t => rnd (t.end_ 0) t.aln
 | _ => 0
def Ty.end_ : Ty → Nat → Nat
 | .pr a b, o => b.end_ (rnd o a.aln + a.byt)
 | _, o => o
end
def Wf : (t : Ty) → t.den → Prop
 | .int k, x => k.min ≤ x ∧ x ≤ k.max
 | .str, x => List.length x ≤ 140737488351232
 | .sl t, l => List.length l * t.byt ≤ 140737488351232 ∧ ∀ x ∈ (l : List t.den), Wf t x
 | .st t, x => Wf t x
 | .pr a b, x => Wf a x.1 ∧ Wf b x.2
 | _, _ => True
def Sz : (t : Ty) → t.den → Nat
 | .str, x => List.length x
 | .sl t, l => ((l : List t.den).map (Sz t)).sum + List.length l
 | .st t, x => Sz t x
 | .pr a b, x => Sz a x.1 + Sz b x.2
 | _, _ => 0
mutual
def bulk {H : Type} : DataW H → Nat
 | .lit (.string b) => b.length
 | .slice es _ => bulkAll es + es.length
 | .agg ps => bulkAll ps
 | _ => 0
def bulkAll {H : Type} : List (DataW H) → Nat
 | [] => 0
 | d :: r => bulk d + bulkAll r
end
theorem bulkAll_map {H : Type} : ∀ l : List (DataW H), bulkAll l = (l.map bulk).sum
 | [] => rfl
 | d :: r => by
  rw [bulkAll, bulkAll_map r]; rfl
theorem sum_le2 {α β : Type} {f : α → Nat} {g : β → Nat} : ∀ {l : List α} {m : List β}, l.length = m.length → (∀ (i : Nat) x y, l[i]? = some x → m[i]? = some y → f x ≤ g y) → (l.map f).sum ≤ (m.map g).sum
 | [], [], _, _ => Nat.le_refl _
 | [], _ :: _, h, _ => by simp at h
 | _ :: _, [], h, _ => by simp at h
 | x :: l, y :: m, h, hR => by
  have h1 := hR 0 x y rfl rfl
  have h2 := sum_le2 (l := l) (m := m) (by simpa using h) fun i a b ha hb => hR (i + 1) a b (by simpa using ha) (by simpa using hb)
  simp only [List.map_cons, List.sum_cons]
  omega
def opB (P : Program) : Ty → TypeId ⊕ (List Field × Nat) → Bool
 | .int k, .inl t => match P.underlying t with | some (.int k') => decide (k = k') | _ => false
 | .bool, .inl t => match P.underlying t with | some .bool => true | _ => false
 | .str, .inl t => match P.underlying t with | some .string => true | _ => false
 | .sl a, .inl t => match P.underlying t with | some (.slice e) => Nat.beq (P.cellsOf e) a.size && Nat.blt 0 a.size && Nat.beq (P.bytesOf e) a.byt && opB P a (.inl e) | _ => false
 | .st c, .inl t => match P.underlying t with | some (.struct fs) => Nat.beq (P.cellsOf t) c.size && opB P c (.inr (fs.toList, 0)) | _ => false
 | .pr a b, .inr (f :: fs, o) => Nat.beq f.offset o && Nat.beq (P.cellsOf f.type) a.size && opB P a (.inl f.type) && opB P b (.inr (fs, o + a.size))
 | .unit, .inr ([], _) => true
 | _, _ => false
section
variable {H : Type} (enc : TypeId × Value → H) (P : Program) (W : World)
def OpnT (t : TypeId) (a : Ty) : Prop :=
 ∀ fuel cs d ps, DataW.trod enc P W 0 (fun _ => true) true fuel t cs = some (d, ps) → Light P t d → ∃ x : a.den, Rp (phiOf W) a x cs [] ∧ Wf a x ∧ Sz a x ≤ bulk d
def OpnF (size o : Nat) (fs : List Field) (a : Ty) : Prop :=
 ∀ (n : Nat) (cs : List Value) (xs : List (DataW H × List MemPlace)), cs.length = size → xs.length = fs.length →
  (∀ (i : Nat) (f : Field), fs[i]? = some f → DataW.trod enc P W 0 (fun _ => true) true n f.type ((cs.drop f.offset).take (P.cellsOf f.type)) = xs[i]?) →
  (∀ (i : Nat) (f : Field) y, fs[i]? = some f → xs[i]? = some y → Light P f.type y.1) → o + a.size = size → ∃ x : a.den, Rp (phiOf W) a x (cs.drop o) [] ∧ Wf a x ∧ Sz a x ≤ bulkAll (xs.map (·.1))
end
section
variable {H : Type} {enc : TypeId × Value → H} {P : Program} {W : World} {t e : TypeId}
theorem light_slice {es sp : List (DataW H)} (ht : P.underlying t = some (.slice e)) (hl : Light P t (.slice es sp)) : es.length * P.bytesOf e ≤ 140737488351232 ∧ ∀ d ∈ es, Light P e d := by
 unfold Light at hl
 simp only [DataW.weights, ht] at hl
 have h7 : reachBytes = 140737488351232 := by decide
 constructor
 ·have h1 := hl _ (List.mem_cons_self ..)
  have h2 : es.length * P.bytesOf e ≤ (es.length + sp.length) * P.bytesOf e := Nat.mul_le_mul_right _ (by omega)
  omega
 ·intro d hd x hx
  refine hl x (List.mem_cons_of_mem _ (List.mem_append_left _ ?_))
  clear hl
  induction es with
  | nil => cases hd
  | cons a r ih =>
   simp only [DataW.weightsAll]
   rcases List.mem_cons.1 hd with rfl | h
   ·exact List.mem_append_left _ hx
   ·exact List.mem_append_right _ (ih h)
theorem light_agg {fs : Array Field} {ds : List (DataW H)} (ht : P.underlying t = some (.struct fs)) (hl : Light P t (.agg ds)) : ∀ (i : Nat) (f : Field) y, fs.toList[i]? = some f → ds[i]? = some y → Light P f.type y := by
 unfold Light at hl
 simp only [DataW.weights, ht] at hl
 have key : ∀ (l : List Field) (ds : List (DataW H)), (∀ x ∈ DataW.weightsEach P (l.map (·.type)) ds, x ≤ reachBytes) → ∀ (i : Nat) (f : Field) y, l[i]? = some f → ds[i]? = some y → Light P f.type y := by
  intro l
  induction l with
  | nil => intro ds _ i f y h; simp at h
  | cons g r ih =>
   intro ds hl i f y hf hy
   cases ds with
   | nil => simp at hy
   | cons d q =>
    simp only [List.map_cons, DataW.weightsEach] at hl
    cases i with
    | zero =>
     simp at hf hy
     subst hf hy
     exact fun x hx => hl x (List.mem_append_left _ hx)
    | succ i => exact ih q (fun x hx => hl x (List.mem_append_right _ hx)) i f y (by simpa using hf) (by simpa using hy)
 exact key fs.toList ds hl
theorem list_choose {α : Type} {p : Nat → α → Prop} : ∀ n, (∀ i, i < n → ∃ x, p i x) → ∃ l : List α, l.length = n ∧ ∀ i x, l[i]? = some x → p i x
 | 0, _ => ⟨[], rfl, fun i x h => by simp at h⟩
 | n + 1, h => by
  obtain ⟨l, h1, h2⟩ := list_choose n (fun i hi => h i (by omega))
  obtain ⟨x, hx⟩ := h n (by omega)
  refine ⟨l ++ [x], by simp [h1], fun i y hy => ?_⟩
  by_cases hi : i < n
  ·rw [List.getElem?_append_left (by omega)] at hy; exact h2 i y hy
  ·rw [List.getElem?_append_right (by omega)] at hy
   have h3 : i = n := by
    have := (List.getElem?_eq_some_iff.1 hy).1
    simp at this; omega
   subst h3
   rw [h1, Nat.sub_self] at hy
   simp at hy
   subst hy; exact hx
theorem all2_of {α β : Type} {R : α → β → Prop} : ∀ {l : List α} {m : List β}, l.length = m.length → (∀ (i : Nat) x y, l[i]? = some x → m[i]? = some y → R x y) → All2 R l m
 | [], [], _, _ => .nil
 | [], _ :: _, h, _ => by simp at h
 | _ :: _, [], h, _ => by simp at h
 | x :: l, y :: m, h, hR => .cons (hR 0 x y rfl rfl) (all2_of (by simpa using h) fun i a b ha hb => hR (i + 1) a b (by simpa using ha) (by simpa using hb))
theorem flat_at {s : Nat} (hs : 0 < s) : ∀ (l : List (List Value)), (∀ c ∈ l, c.length = s) → ∀ (j : Nat) (v : Value), l.flatten[j]? = some v → ∃ i k c, j = i * s + k ∧ l[i]? = some c ∧ c[k]? = some v
 | [], _, j, v, h => by simp at h
 | d :: r, hl, j, v, h => by
  have h1 := hl d List.mem_cons_self
  rw [List.flatten_cons] at h
  by_cases hj : j < s
  ·rw [List.getElem?_append_left (by omega)] at h
   exact ⟨0, j, d, by omega, rfl, h⟩
  ·rw [List.getElem?_append_right (by omega), h1] at h
   obtain ⟨i, k, c, e1, e2, e3⟩ := flat_at hs r (fun c hc => hl c (List.mem_cons_of_mem _ hc)) (j - s) v h
   exact ⟨i + 1, k, c, by rw [Nat.succ_mul]; omega, by simpa using e2, e3⟩
theorem opn_ok : ∀ (a : Ty), (∀ t, opB P a (.inl t) = true → OpnT enc P W t a) ∧ (∀ fs o size, opB P a (.inr (fs, o)) = true → OpnF enc P W size o fs a)
 | .int k => by
  refine ⟨fun t h => ?_, fun fs o size h => by cases fs <;> simp [opB] at h⟩
  ·skip
   unfold opB at h
   split at h
   ·rename_i k' hu
    have h := of_decide_eq_true h
    subst h
    intro fuel cs d ps ht _
    obtain ⟨n, h1, h2, h3⟩ := DataW.trod_int hu ht
    exact ⟨n, ⟨h1, rfl⟩, by
     have h4 : k.min ≤ n ∧ n ≤ k.max := by simpa [Lit.wf] using h3
     exact ⟨h4, Nat.zero_le _⟩⟩
   ·cases h
 | .bool => by
  refine ⟨fun t h => ?_, fun fs o size h => by cases fs <;> simp [opB] at h⟩
  ·skip
   unfold opB at h
   split at h
   ·rename_i hu
    intro fuel cs d ps ht _
    cases fuel with
    | zero => simp [DataW.trod] at ht
    | succ n =>
     unfold DataW.trod at ht
     rw [hu] at ht
     split at ht <;> simp_all [Rp, Wf, Sz]
   ·cases h
 | .str => by
  refine ⟨fun t h => ?_, fun fs o size h => by cases fs <;> simp [opB] at h⟩
  ·skip
   unfold opB at h
   split at h
   ·rename_i hu
    intro fuel cs d ps ht hl
    obtain ⟨s, h1, h2, h3⟩ := DataW.trod_string hu ht
    injection h2 with h4 h5
    subst h4
    refine ⟨s.data.toList, ⟨by rw [h1], rfl⟩, ?_⟩
    have h6 := hl s.data.toList.length (by simp [DataW.weights])
    have h7 : reachBytes = 140737488351232 := by decide
    refine ⟨?_, Nat.le_refl _⟩
    show s.data.toList.length ≤ _
    omega
   ·cases h
 | .unit => ⟨fun t h => by simp [opB] at h, fun fs o size h => by
   cases fs with
   | cons f r => simp [opB] at h
   | nil =>
    intro n cs xs hs _ _ _ hz
    have : o = cs.length := by rw [hs]; exact hz
    exact ⟨(), ⟨List.drop_eq_nil_of_le (by omega), rfl⟩, trivial, Nat.zero_le _⟩⟩
 | .sl a => by
  refine ⟨fun t h => ?_, fun fs o size h => by cases fs <;> simp [opB] at h⟩
  ·skip
   unfold opB at h
   split at h
   case h_2 => cases h
   case h_1 e hu =>
   simp only [Bool.and_eq_true] at h
   obtain ⟨⟨⟨h1, h2⟩, h3⟩, h4⟩ := h
   have hn := Nat.eq_of_beq_eq_true h1
   have h0 : 0 < a.size := by simpa [Nat.blt_eq] using h2
   have hb := Nat.eq_of_beq_eq_true h3
   have he := (opn_ok a).1 e h4
   intro fuel cs d ps hd hl
   rcases DataW.trod_slice hu hd with ⟨g1, g2⟩ | ⟨ad, len, cap, elems, rest, m, _, rfl, hx, _, hlc, _, hlen, hel, _, _⟩
   ·exact ⟨([] : List a.den), ⟨none, 0, [], g1, Nat.le_refl _, .nil, fun hn => absurd hn (by simp), rfl⟩, by simp [Wf], Nat.zero_le _⟩
   ·injection hx with hx1 hx2
    subst hx1
    obtain ⟨hl1, hl2⟩ := light_slice hu hl
    rw [List.length_map, hlen, hb] at hl1
    have each : ∀ i, i < len → ∃ q : a.den × List Value, Rp (phiOf W) a q.1 q.2 [] ∧ Wf a q.1 ∧ (∀ k u, q.2[k]? = some u → W.cell? (ad.add (i * a.size + k)) = some u) ∧ ∀ y, elems[i]? = some y → Sz a q.1 ≤ bulk y.1 := by
     intro i hi
     obtain ⟨y, hy⟩ : ∃ y, elems[i]? = some y := ⟨_, List.getElem?_eq_getElem (by omega)⟩
     have h3 := hel i hi
     rw [hy, hn, Option.bind_eq_some_iff] at h3
     obtain ⟨cs', h4, h5⟩ := h3
     obtain ⟨y1, y2⟩ := y
     obtain ⟨x, h6, h7, h7b⟩ := he m cs' y1 y2 h5 (hl2 y1 (List.mem_map.2 ⟨(y1, y2), List.mem_of_getElem? hy, rfl⟩))
     obtain ⟨_, h8, h9⟩ := World.cells?_some h4
     refine ⟨(x, cs'), h6, h7, fun k u hu => ?_, fun y' hy' => (by rw [hy] at hy'; injection hy' with hy'; rw [← hy']; exact h7b)⟩
     have hk : k < a.size := by rw [← h6.len]; exact (List.getElem?_eq_some_iff.1 hu).1
     have := h9 k hk
     rw [hu, add_add'] at this
     exact this
    obtain ⟨l, h10, h11⟩ := list_choose len each
    have hll : (l.map (·.1)).length = len := by rw [List.length_map, h10]
    have hall : All2 (fun x cs => Rp (phiOf W) a x cs []) (l.map (·.1)) (l.map (·.2)) := all2_of (by simp) fun i x y hx hy => by
     rw [List.getElem?_map] at hx hy
     cases hq : l[i]? with
     | none => rw [hq] at hx; cases hx
     | some q =>
      rw [hq] at hx hy
      simp only [Option.map_some, Option.some.injEq] at hx hy
      subst hx hy
      exact (h11 i q hq).1
    refine ⟨l.map (·.1), ⟨some ad, cap, l.map (·.2), ?_, ?_, hall, fun _ => ⟨ad, rfl, fun j v hv => ?_⟩, rfl⟩, ⟨?_, fun x hx => ?_⟩, ?_⟩
    ·show [Value.slice (some ad) len cap] = [Value.slice (some ad) (l.map (·.1)).length cap]
     rw [hll]
    ·show (l.map (·.1)).length ≤ cap
     omega
    ·obtain ⟨i, k, c, rfl, e2, e3⟩ := flat_at h0 (l.map (·.2)) (fun c hc => by
      obtain ⟨q, hq, rfl⟩ := List.mem_map.1 hc
      obtain ⟨i, hi⟩ := List.getElem?_of_mem hq
      exact (h11 i q hi).1.len) j v hv
     rw [List.getElem?_map] at e2
     cases hq : l[i]? with
     | none => rw [hq] at e2; cases e2
     | some q =>
      rw [hq] at e2
      simp only [Option.map_some, Option.some.injEq] at e2
      subst e2
      exact (h11 i q hq).2.2.1 k v e3
    ·show (l.map (·.1)).length * a.byt ≤ _
     rw [hll]; exact hl1
    ·obtain ⟨q, hq, rfl⟩ := List.mem_map.1 hx
     obtain ⟨i, hi⟩ := List.getElem?_of_mem hq
     exact (h11 i q hi).2.1
    ·show ((l.map (·.1)).map (Sz a)).sum + (l.map (·.1)).length ≤ bulkAll (elems.map (·.1)) + (elems.map (·.1)).length
     rw [bulkAll_map, hll, List.length_map, hlen]
     refine Nat.add_le_add_right (sum_le2 (by rw [hll, List.length_map, hlen]) fun i x y hx hy => ?_) _
     rw [List.getElem?_map] at hx hy
     cases hq : l[i]? with
     | none => rw [hq] at hx; cases hx
     | some q =>
      cases he2 : elems[i]? with
      | none => rw [he2] at hy; cases hy
      | some z =>
       rw [hq] at hx
       rw [he2] at hy
       simp only [Option.map_some, Option.some.injEq] at hx hy
       subst hx hy
       exact (h11 i q hq).2.2.2 z he2
 | .st c => by
  refine ⟨fun t h => ?_, fun fs o size h => by cases fs <;> simp [opB] at h⟩
  ·skip
   unfold opB at h
   split at h
   case h_2 => cases h
   case h_1 fs hu =>
   simp only [Bool.and_eq_true] at h
   have hs := Nat.eq_of_beq_eq_true h.1
   have hF := (opn_ok c).2 fs.toList 0 c.size h.2
   intro fuel cs d ps hd hl
   obtain ⟨xs, n, _, hx, hcl, hxl, hf⟩ := DataW.trod_struct hu hd
   injection hx with hx1 hx2
   subst hx1
   have hla := light_agg hu hl
   obtain ⟨x, h1, h2, h3⟩ := hF n cs xs (by rw [hcl, hs]) (by simpa using hxl) (fun i f hi => hf i f (by simpa using hi)) (fun i f y hi hy => hla i f y.1 hi (by simp [hy])) (by simp)
   have h1 : Rp (phiOf W) c x cs [] := by simpa using h1
   exact ⟨x, h1, h2, h3⟩
 | .pr a b => ⟨fun t h => by simp [opB] at h, fun fs o size h => by
   cases fs with
   | nil => simp [opB] at h
   | cons f fs =>
    unfold opB at h
    simp only [Bool.and_eq_true] at h
    obtain ⟨⟨⟨h1, h2⟩, h3⟩, h4⟩ := h
    have ho := Nat.eq_of_beq_eq_true h1
    have hm := Nat.eq_of_beq_eq_true h2
    have ha := (opn_ok a).1 _ h3
    have hb := (opn_ok b).2 fs (o + a.size) size h4
    intro n cs xs hs hxl hx hl hz
    cases xs with
    | nil => simp at hxl
    | cons y ys =>
     have h3 := hx 0 f rfl
     rw [ho, hm] at h3
     obtain ⟨y1, y2⟩ := y
     obtain ⟨x, g1, g2, g2b⟩ := ha n _ y1 y2 h3 (hl 0 f (y1, y2) rfl rfl)
     obtain ⟨z, g3, g4, g4b⟩ := hb n cs ys hs (by simpa using hxl) (fun i g hg => by simpa using hx (i + 1) g (by simpa using hg)) (fun i g y hg hy => hl (i + 1) g y (by simpa using hg) (by simpa using hy)) (by rw [← hz]; simp [Ty.size]; omega)
     refine ⟨(x, z), ⟨_, _, [], [], ?_, rfl, g1, g3⟩, ⟨g2, g4⟩, Nat.add_le_add g2b g4b⟩
     rw [← List.drop_drop, List.take_append_drop]⟩
 | .it => ⟨fun t h => by simp [opB] at h, fun fs o size h => by cases fs <;> simp [opB] at h⟩
 | .itd => ⟨fun t h => by simp [opB] at h, fun fs o size h => by cases fs <;> simp [opB] at h⟩
 | .dead _ _ => ⟨fun t h => by simp [opB] at h, fun fs o size h => by cases fs <;> simp [opB] at h⟩
 | .rw _ _ => ⟨fun t h => by simp [opB] at h, fun fs o size h => by cases fs <;> simp [opB] at h⟩
 | .mr _ _ => ⟨fun t h => by simp [opB] at h, fun fs o size h => by cases fs <;> simp [opB] at h⟩
 | .ptr _ => ⟨fun t h => by simp [opB] at h, fun fs o size h => by cases fs <;> simp [opB] at h⟩
 | .eb _ _ => ⟨fun t h => by simp [opB] at h, fun fs o size h => by cases fs <;> simp [opB] at h⟩
 | .op _ => ⟨fun t h => by simp [opB] at h, fun fs o size h => by cases fs <;> simp [opB] at h⟩
 | .bx _ _ => ⟨fun t h => by simp [opB] at h, fun fs o size h => by cases fs <;> simp [opB] at h⟩
 | .bo _ _ => ⟨fun t h => by simp [opB] at h, fun fs o size h => by cases fs <;> simp [opB] at h⟩
 | .bn => ⟨fun t h => by simp [opB] at h, fun fs o size h => by cases fs <;> simp [opB] at h⟩
 | .tr => ⟨fun t h => by simp [opB] at h, fun fs o size h => by cases fs <;> simp [opB] at h⟩
 | .ml _ _ _ => ⟨fun t h => by simp [opB] at h, fun fs o size h => by cases fs <;> simp [opB] at h⟩
 | .on _ => ⟨fun t h => by simp [opB] at h, fun fs o size h => by cases fs <;> simp [opB] at h⟩
 | .fl _ => ⟨fun t h => by simp [opB] at h, fun fs o size h => by cases fs <;> simp [opB] at h⟩
theorem light_arg {ts : List TypeId} {ds : List (DataW H)} {j : Nat} {t : TypeId} {d : DataW H} (hz : (DataW.weightsEach P ts ds).all (· ≤ reachBytes) = true) (ht : ts[j]? = some t) (hd : ds[j]? = some d) : Light P t d := by
 intro x hx
 have h1 : ∀ y ∈ DataW.weightsEach P ts ds, y ≤ reachBytes := fun y hy => by simpa using List.all_eq_true.1 hz y hy
 clear hz
 induction ts generalizing ds j with
 | nil => simp at ht
 | cons a r ih =>
  cases ds with
  | nil => simp at hd
  | cons b q =>
   simp only [DataW.weightsEach] at h1
   cases j with
   | zero =>
    simp at ht hd
    subst ht hd
    exact h1 x (List.mem_append_left _ hx)
   | succ j => exact ih (by simpa using ht) (by simpa using hd) (fun y hy => h1 y (List.mem_append_right _ hy))
theorem open_argB {a : Ty} {v : Value} {d : DataW H} {ps : List MemPlace} {base : Nat} (ha : opB P a (.inl t) = true) (hv : Value.okWide P W .any base t v) (h : DataW.Trod enc P W 0 (fun _ => true) true t v d ps) (hl : Light P t d) :
  ∃ (x : a.den) (cs : List Value), a.top = true ∧ v = sv a cs ∧ Rp (phiOf W) a x cs [] ∧ Wf a x ∧ Sz a x ≤ bulk d := by
 obtain ⟨fuel, hf⟩ := h
 obtain ⟨x, h1, h2, h2b⟩ := (opn_ok (enc := enc) (W := W) a).1 t ha fuel _ d ps hf hl
 refine ⟨x, v.cells.toList, ?_, ?_, h1, h2, h2b⟩
 ·cases a <;> first | rfl | (simp [opB] at ha; done)
 ·cases a <;> first | (simp [opB] at ha; done) | skip
  all_goals unfold opB at ha
  all_goals split at ha <;> first | (cases ha; done) | skip
  all_goals rename_i hu
  ·obtain ⟨n, rfl⟩ := okWide_int hu hv; rfl
  ·obtain ⟨n, rfl⟩ := okWide_bool hu hv; rfl
  ·obtain ⟨n, rfl⟩ := okWide_string hu hv; rfl
  ·obtain ⟨A, n, c, rfl⟩ := okWide_slice hu hv; rfl
  ·obtain ⟨cs, rfl, _⟩ := okWide_struct hu hv; rfl
theorem open_arg {a : Ty} {v : Value} {d : DataW H} {ps : List MemPlace} {base : Nat} (ha : opB P a (.inl t) = true) (hv : Value.okWide P W .any base t v) (h : DataW.Trod enc P W 0 (fun _ => true) true t v d ps) (hl : Light P t d) :
  ∃ (x : a.den) (cs : List Value), a.top = true ∧ v = sv a cs ∧ Rp (phiOf W) a x cs [] ∧ Wf a x :=
 let ⟨x, cs, h1, h2, h3, h4, _⟩ := open_argB ha hv h hl
 ⟨x, cs, h1, h2, h3, h4⟩
end
end Go.Lf
