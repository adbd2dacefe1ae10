/-
  With a bound on every loop: what is reckoned so, is so.
-/
import Derived.Test.YtlidfdmdmiidfaaDoorQAD
import Derived.Shelf.Strings.Builder1
import Derived.Shelf.Strings.Builder2
import Derived.Shelf.Strings.OnBuilder
import Derived.Shelf.Strings.BuilderF
import Derived.Shelf.Strings.BuilderK
import Derived.Shelf.Strings.Builder2Cap
import Derived.Shelf.Strconv.Itoa0
import Derived.Shelf.Strconv.Itoa1
import Derived.Shelf.LaysM
import Derived.Shelf.Strconv.Itoa2
import Derived.Shelf.Strconv.Itoa3
import Derived.Shelf.Strings.BuilderCap
import Derived.Test.YtlidfdmdmiidfaaDoorProg
import Derived.Lib.FrozenHead2
import Derived.Lib.OthersKept
import Derived.KernelRfl
import Derived.Carry
import Derived.ChangeSame
import Derived.ChangeMaps5
import Derived.SizedLaws
import Derived.ChangeSlices
import Derived.SliceStrings
import Derived.ProofKit
import Derived.OpenShut
import Derived.Deep.DeepHandedRow
import Derived.Lib.LaidTab
import Derived.Laws.ResultCell
import Derived.Lib.ItoaLen
import Derived.Deep.RegionHeld3
import Derived.LaidEql
import Derived.Stop.Asserts
import Derived.RowKitTokens
import Derived.WalkKit
namespace Go.Lf
open Go
def Le {α : Type} (x y : Option α) : Prop := ∀ r, x = some r → y = some r
def onSum {α β γ : Type} (d : α ⊕ β) (f : α → γ) (g : β → γ) : γ := match d with
 | .inl a => f a
 | .inr b => g b
noncomputable def loopF (n : Nat) {σ κ : Type} (B : σ → Option (σ ⊕ κ)) (z : σ) : Option κ := iter B n z
section
variable {α β γ σ κ : Type}
theorem Le.refl {x : Option α} : Le x x := fun _ h => h
theorem Le.trans {x y z : Option α} (h : Le x y) (h' : Le y z) : Le x z := fun r hr => h' r (h r hr)
theorem Le.bind {x y : Option α} {f g : α → Option β} (h : Le x y) (hf : ∀ a, Le (f a) (g a)) : Le (x.bind f) (y.bind g) := fun r hr => by
 obtain ⟨a, h1, h2⟩ := Option.bind_eq_some_iff.1 hr
 exact Option.bind_eq_some_iff.2 ⟨a, h a h1, hf a r h2⟩
theorem Le.cond {b : Bool} {x y x' y' : Option α} (h : Le x x') (h' : Le y y') : Le (cond b x y) (cond b x' y') := by cases b <;> assumption
theorem Le.onSum {d : α ⊕ β} {f f' : α → Option γ} {g g' : β → Option γ} (h : ∀ a, Le (f a) (f' a)) (h' : ∀ a, Le (g a) (g' a)) : Le (onSum d f g) (onSum d f' g') := by
 cases d
 ·exact h _
 ·exact h' _
theorem iter_le {B B' : σ → Option (σ ⊕ κ)} (h : ∀ z, Le (B z) (B' z)) : ∀ (n m : Nat), n ≤ m → ∀ z, Le (iter B n z) (iter B' m z)
 | 0, _, _, _ => fun r hr => by cases hr
 | n + 1, 0, hm, _ => by omega
 | n + 1, m + 1, hm, z => by
  unfold iter
  refine Le.bind (h z) fun a => ?_
  cases a with
  | inl z' => exact iter_le h n m (by omega) z'
  | inr k => exact Le.refl
theorem loopC_some {B : σ → Option (σ ⊕ κ)} {z : σ} {k : κ} (h : loopC B z = some k) : ∃ n, iter B n z = some k := by
 unfold loopC at h
 split at h
 ·rename_i he
  simp only [Option.some.injEq] at h
  rw [← h]
  exact Classical.choose_spec he
 ·cases h
theorem loopC_of {B : σ → Option (σ ⊕ κ)} {z : σ} {k : κ} {n : Nat} (h : iter B n z = some k) : loopC B z = some k := by
 unfold loopC
 have he : ∃ k n, iter B n z = some k := ⟨k, n, h⟩
 rw [dif_pos he]
 obtain ⟨m, hm⟩ := Classical.choose_spec he
 have h1 := iter_le (fun z => Le.refl (x := B z)) m (max m n) (Nat.le_max_left _ _) z _ hm
 have h2 := iter_le (fun z => Le.refl (x := B z)) n (max m n) (Nat.le_max_right _ _) z _ h
 rw [h1] at h2
 exact h2
theorem Le.loop {n : Nat} {B B' : σ → Option (σ ⊕ κ)} {z : σ} (h : ∀ z, Le (B z) (B' z)) : Le (loopF n B z) (loopC B' z) := fun _ hr => loopC_of (iter_le h n n (Nat.le_refl _) z _ hr)
theorem Le.loopC {B B' : σ → Option (σ ⊕ κ)} {z : σ} (h : ∀ z, Le (B z) (B' z)) : Le (loopC B z) (loopC B' z) := fun _ hr => by
 obtain ⟨n, hn⟩ := loopC_some hr
 exact loopC_of (iter_le h n n (Nat.le_refl _) z _ hn)
theorem loopC_step {B : σ → Option (σ ⊕ κ)} {z : σ} : loopC B z = (B z).bind fun | .inl z' => loopC B z' | .inr k => some k := by
 have h1 : ∀ r, loopC B z = some r → ((B z).bind fun | .inl z' => loopC B z' | .inr k => some k) = some r := fun r hr => by
  obtain ⟨n, hn⟩ := loopC_some hr
  cases n with
  | zero => cases hn
  | succ n =>
   unfold iter at hn
   obtain ⟨a, h1, h2⟩ := Option.bind_eq_some_iff.1 hn
   refine Option.bind_eq_some_iff.2 ⟨a, h1, ?_⟩
   cases a with
   | inl z' => exact loopC_of h2
   | inr k => exact h2
 have h2 : ∀ r, ((B z).bind fun | .inl z' => loopC B z' | .inr k => some k) = some r → loopC B z = some r := fun r hr => by
  obtain ⟨a, h1, h2⟩ := Option.bind_eq_some_iff.1 hr
  cases a with
  | inl z' =>
   obtain ⟨n, hn⟩ := loopC_some h2
   exact loopC_of (n := n + 1) (by unfold iter; rw [h1]; exact hn)
  | inr k => exact loopC_of (n := 1) (by unfold iter; rw [h1]; exact h2)
 cases h : loopC B z with
 | some r => exact (h1 r h).symm
 | none =>
  cases h' : (B z).bind fun | .inl z' => loopC B z' | .inr k => some k with
  | none => rfl
  | some r => rw [h2 r h'] at h; cases h
end
end Go.Lf
/-
  Functions that are run on known arguments alone: what they compute is the interpreter's word, with a bound on every loop.
-/
namespace Go.Lf
open Go Go.Eng
structure RunS where
 c : Ctx
 code : Code
 an : Ann
 ps : List Par
 rs : List Ty
 sl : List ResultVar
noncomputable def RunS.F (r : RunS) : prodT (r.ps.map Par.ty) → Option (prodT (r.rs ++ outs r.ps)) := fnE r.c r.code r.an r.ps r.rs r.sl
def topsB (ps : List Par) (rs : List Ty) : Bool := (ps.all fun p => match p with | .val t => t.top | _ => true) && rs.all Ty.top
theorem run_ok {P : Program} {G : World → Prop} {f : FuncId} (r : RunS) (fn : Func) (hm : P.follows .mixedOrders = true) (hc : CtxOk P G r.c) (h1 : P.funcs[f]? = some fn) (h2 : fn.body = some r.code) (h3 : (fn.name == "runtime.NumGoroutine") = false)
  (h4 : Nat.beq fn.ntmps r.c.n = true) (h5 : fn.results = r.sl.toArray) (h6 : Nat.ble r.ps.length r.c.n = true) (h7 : topsB r.ps r.rs = true) : EntryOk P G f ⟨r.ps, r.rs, r.F⟩ := by
 unfold topsB at h7
 rw [Bool.and_eq_true, List.all_eq_true, List.all_eq_true] at h7
 exact fn_ok hm hc h1 h2 h3 (Nat.eq_of_beq_eq_true h4) h5 (Nat.le_of_ble_eq_true h6) (fun t ht => h7.1 _ ht) h7.2 fun z r h => h
noncomputable def recN {α β : Type} (B : (α → Option β) → α → Option β) : Nat → α → Option β
 | 0 => fun _ => none
 | n + 1 => B (recN B n)
theorem recN_ok {P : Program} {G : World → Prop} {f : Nat} {ps : List Par} {rs : List Ty} {B : (prodT (ps.map Par.ty) → Option (prodT (rs ++ outs ps))) → prodT (ps.map Par.ty) → Option (prodT (rs ++ outs ps))} (fn : Func) (hfn : P.funcs[f]? = some fn) (hname : (fn.name == "runtime.NumGoroutine") = false) (hb : fn.body.isNone = false) (hpt : topsB ps rs = true)
  (hs : ∀ self, EntryOk P G f ⟨ps, rs, self⟩ → EntryOk P G f ⟨ps, rs, B self⟩) : ∀ n, EntryOk P G f ⟨ps, rs, recN B n⟩
 | 0 => by
  unfold topsB at hpt
  rw [Bool.and_eq_true, List.all_eq_true, List.all_eq_true] at hpt
  exact ⟨GoFn.mk fn hfn hname hb, fun t ht => hpt.1 _ ht, fun z r hz => by cases (show none = some r from hz)⟩
 | n + 1 => hs _ (recN_ok fn hfn hname hb hpt hs n)
end Go.Lf
/- The shelf's contracts, laid at this program by the kit's tools. -/
namespace Go.Proofs
open Go.Shelf
def Tryd.lays169_ren : Go.Shelf.Ren := ⟨fun | 169 => 50 | n => n, fun | 70 => 106 | 9 => 9 | 0 => 0 | 72 => 109 | 37 => 107 | 127 => 130 | 3 => 3 | 5 => 5 | n => n, fun | n => n⟩
theorem Tryd.lays169 : Go.Proofs.Lays.n169 Tryd.prog Tryd.lays169_ren := {
 mixed := by kernel_rfl
 f169 := Tryd.func50.trans (congrArg some (by kernel_rfl))
 t0 := Tryd.underlying0
 a0 := Tryd.isAgg0
 z0 := Tryd.sizeOf0
 v0 := Tryd.zeroValue0
 t3 := Tryd.underlying3
 a3 := Tryd.isAgg3
 z3 := Tryd.sizeOf3
 v3 := Tryd.zeroValue3
 t9 := Tryd.underlying9
 a9 := Tryd.isAgg9
 z9 := Tryd.sizeOf9
 v9 := Tryd.zeroValue9
 t37 := Tryd.underlying107
 a37 := Tryd.isAgg107
 z37 := Tryd.sizeOf107
 v37 := Tryd.zeroValue107
 t70 := Tryd.underlying106
 a70 := Tryd.isAgg106
 z70 := Tryd.sizeOf106
 v70 := Tryd.zeroValue106
 t72 := Tryd.underlying109
 a72 := Tryd.isAgg109
 z72 := Tryd.sizeOf109
 v72 := Tryd.zeroValue109
 t127 := Tryd.underlying130
 a127 := Tryd.isAgg130
 z127 := Tryd.sizeOf130
 v127 := Tryd.zeroValue130 }
theorem Tryd.Builder_Extra_169 : Builder.Extra Tryd.prog Tryd.lays169_ren := {
 sizeBuilder := by kernel_rfl
 liesBuilder := by kernel_rfl
 t5 := Tryd.underlying5
 a5 := Tryd.isAgg5
 z5 := Tryd.sizeOf5
 v5 := Tryd.zeroValue5
 infoByte := by kernel_rfl
 cellsByte := by kernel_rfl
 sizeByte := by kernel_rfl
 neB5 := by decide }
def Tryd.lays165_ren : Go.Shelf.Ren := ⟨fun | 165 => 97 | 240 => 54 | 241 => 98 | 276 => 59 | 277 => 99 | n => n, fun | 70 => 106 | 3 => 3 | 0 => 0 | 4 => 4 | 9 => 9 | 20 => 20 | 72 => 109 | 37 => 107 | 164 => 87 | 5 => 5 | n => n, fun | n => n⟩
theorem Tryd.lays165 : Go.Proofs.Lays.n165 Tryd.prog Tryd.lays165_ren := {
 mixed := by kernel_rfl
 f165 := Tryd.func97.trans (congrArg some (by kernel_rfl))
 f240 := Tryd.func54.trans (congrArg some (by kernel_rfl))
 f241 := Tryd.func98.trans (congrArg some (by kernel_rfl))
 f276 := Tryd.func59.trans (congrArg some (by kernel_rfl))
 f277 := Tryd.func99.trans (congrArg some (by kernel_rfl))
 t0 := Tryd.underlying0
 a0 := Tryd.isAgg0
 z0 := Tryd.sizeOf0
 v0 := Tryd.zeroValue0
 t3 := Tryd.underlying3
 a3 := Tryd.isAgg3
 z3 := Tryd.sizeOf3
 v3 := Tryd.zeroValue3
 t4 := Tryd.underlying4
 a4 := Tryd.isAgg4
 z4 := Tryd.sizeOf4
 v4 := Tryd.zeroValue4
 t9 := Tryd.underlying9
 a9 := Tryd.isAgg9
 z9 := Tryd.sizeOf9
 v9 := Tryd.zeroValue9
 t20 := Tryd.underlying20
 a20 := Tryd.isAgg20
 z20 := Tryd.sizeOf20
 v20 := Tryd.zeroValue20
 t37 := Tryd.underlying107
 a37 := Tryd.isAgg107
 z37 := Tryd.sizeOf107
 v37 := Tryd.zeroValue107
 t70 := Tryd.underlying106
 a70 := Tryd.isAgg106
 z70 := Tryd.sizeOf106
 v70 := Tryd.zeroValue106
 t72 := Tryd.underlying109
 a72 := Tryd.isAgg109
 z72 := Tryd.sizeOf109
 v72 := Tryd.zeroValue109
 t164 := Tryd.underlying87
 a164 := Tryd.isAgg87
 z164 := Tryd.sizeOf87
 v164 := Tryd.zeroValue87 }
theorem Tryd.Builder_Extra_165 : Builder.Extra Tryd.prog Tryd.lays165_ren := {
 sizeBuilder := by kernel_rfl
 liesBuilder := by kernel_rfl
 t5 := Tryd.underlying5
 a5 := Tryd.isAgg5
 z5 := Tryd.sizeOf5
 v5 := Tryd.zeroValue5
 infoByte := by kernel_rfl
 cellsByte := by kernel_rfl
 sizeByte := by kernel_rfl
 neB5 := by decide }
open Go.RowKit in
theorem Tryd.Builder_Grow_fresh (B b n : Nat) (w : World) (hB : B ≤ b) (hbk : w.heap[b]? = some (.cells #[.pointer none, .slice none 0 0] 109 (0, 0))) (hBw : B ≤ w.heap.size) (hn : n ≤ 281474976710656) :
  Calls Tryd.prog 97 #[.pointer (some ⟨b, 0, none⟩), .int .i64 n] w fun e w' => e = .returned (.tuple #[]) ∧ (Lib.BuilderAt 109 5 B b (.pointer (some ⟨b, 0, none⟩)) [] w' ∧ Below B w w') := Any.Builder_Grow_fresh Tryd.lays165 Tryd.Builder_Extra_165 B b n w hB hbk hBw hn
open Go.RowKit in
theorem Tryd.Builder_String_any_k (B b : Nat) (l : List UInt8) (w : World) (h : Lib.IsBuilderF 109 5 B b (Lib.byteCells l) w) (hBw : B ≤ w.heap.size) :
  Calls Tryd.prog 50 #[.pointer (some ⟨b, 0, none⟩)] w fun e w' => e = .returned (.string ⟨l.toArray⟩) ∧ (Lib.IsBuilderF 109 5 B b (Lib.byteCells l) w' ∧ Below B w w' ∧ Lib.OthersKept 5 (some b) w w') := Any.Builder_String_any_k Tryd.lays169 Tryd.Builder_Extra_169 B b l w h hBw
def Tryd.laysM171_ren : Go.Shelf.Ren := ⟨fun | 171 => 15 | 243 => 38 | 246 => 51 | 283 => 55 | 284 => 56 | 285 => 57 | 286 => 58 | 129 => 61 | 317 => 60 | 318 => 62 | 319 => 63 | 320 => 64 | 337 => 65 | 338 => 66 | n => n, fun | 3 => 3 | 9 => 9 | 2 => 2 | 4 => 4 | 171 => 131 | 0 => 0 | 53 => 132 | 37 => 107 | 5 => 5 | 173 => 135 | 212 => 140 | 51 => 141 | 20 => 20 | 213 => 142 | 46 => 144 | 232 => 147 | 233 => 148 | n => n, fun | 17 => 1 | 18 => 2 | 19 => 3 | n => n⟩
theorem Tryd.laysM171 : Go.Proofs.LaysM.n171 Tryd.prog Tryd.laysM171_ren := {
 mixed := by kernel_rfl
 f129 := Tryd.func61.trans (congrArg some (by kernel_rfl))
 f171 := Tryd.func15.trans (congrArg some (by kernel_rfl))
 f243 := Tryd.func38.trans (congrArg some (by kernel_rfl))
 f246 := Tryd.func51.trans (congrArg some (by kernel_rfl))
 f283 := Tryd.func55.trans (congrArg some (by kernel_rfl))
 f284 := Tryd.func56.trans (congrArg some (by kernel_rfl))
 f285 := Tryd.func57.trans (congrArg some (by kernel_rfl))
 f286 := Tryd.func58.trans (congrArg some (by kernel_rfl))
 f317 := Tryd.func60.trans (congrArg some (by kernel_rfl))
 f318 := Tryd.func62.trans (congrArg some (by kernel_rfl))
 f319 := Tryd.func63.trans (congrArg some (by kernel_rfl))
 f320 := Tryd.func64.trans (congrArg some (by kernel_rfl))
 f337 := Tryd.func65.trans (congrArg some (by kernel_rfl))
 f338 := Tryd.func66.trans (congrArg some (by kernel_rfl))
 t0 := Tryd.underlying0
 a0 := Tryd.isAgg0
 z0 := Tryd.sizeOf0
 v0 := Tryd.zeroValue0
 t2 := Tryd.underlying2
 a2 := Tryd.isAgg2
 z2 := Tryd.sizeOf2
 v2 := Tryd.zeroValue2
 t3 := Tryd.underlying3
 a3 := Tryd.isAgg3
 z3 := Tryd.sizeOf3
 v3 := Tryd.zeroValue3
 t4 := Tryd.underlying4
 a4 := Tryd.isAgg4
 z4 := Tryd.sizeOf4
 v4 := Tryd.zeroValue4
 t5 := Tryd.underlying5
 a5 := Tryd.isAgg5
 z5 := Tryd.sizeOf5
 v5 := Tryd.zeroValue5
 t9 := Tryd.underlying9
 a9 := Tryd.isAgg9
 z9 := Tryd.sizeOf9
 v9 := Tryd.zeroValue9
 t20 := Tryd.underlying20
 a20 := Tryd.isAgg20
 z20 := Tryd.sizeOf20
 v20 := Tryd.zeroValue20
 t37 := Tryd.underlying107
 a37 := Tryd.isAgg107
 z37 := Tryd.sizeOf107
 v37 := Tryd.zeroValue107
 t46 := Tryd.underlying144
 a46 := Tryd.isAgg144
 z46 := Tryd.sizeOf144
 v46 := Tryd.zeroValue144
 t51 := Tryd.underlying141
 a51 := Tryd.isAgg141
 z51 := Tryd.sizeOf141
 v51 := Tryd.zeroValue141
 t53 := Tryd.underlying132
 a53 := Tryd.isAgg132
 z53 := Tryd.sizeOf132
 v53 := Tryd.zeroValue132
 t171 := Tryd.underlying131
 a171 := Tryd.isAgg131
 z171 := Tryd.sizeOf131
 v171 := Tryd.zeroValue131
 t173 := Tryd.underlying135
 a173 := Tryd.isAgg135
 z173 := Tryd.sizeOf135
 v173 := Tryd.zeroValue135
 t212 := Tryd.underlying140
 a212 := Tryd.isAgg140
 z212 := Tryd.sizeOf140
 v212 := Tryd.zeroValue140
 t213 := Tryd.underlying142
 a213 := Tryd.isAgg142
 z213 := Tryd.sizeOf142
 t232 := Tryd.underlying147
 a232 := Tryd.isAgg147
 z232 := Tryd.sizeOf147
 v232 := Tryd.zeroValue147
 t233 := Tryd.underlying148
 a233 := Tryd.isAgg148
 z233 := Tryd.sizeOf148
 v233 := Tryd.zeroValue148
 g17 := by kernel_rfl
 g18 := by kernel_rfl
 g19 := by kernel_rfl
 i0 := by kernel_rfl
 i2 := by kernel_rfl
 i3 := by kernel_rfl
 i4 := by kernel_rfl
 i5 := by kernel_rfl
 i9 := by kernel_rfl
 i20 := by kernel_rfl
 i37 := by kernel_rfl
 i46 := by kernel_rfl
 i51 := by kernel_rfl
 i53 := by kernel_rfl
 i171 := by kernel_rfl
 i173 := by kernel_rfl
 i212 := by kernel_rfl
 i232 := by kernel_rfl
 i233 := by kernel_rfl
 m17 := by kernel_rfl
 m18 := by kernel_rfl
 m19 := by kernel_rfl }
open Go.RowKit Go.Sort Go.Lib in
theorem Tryd.strconv_Itoa (n : Int) (h0 : -9223372036854775808 ≤ n) (h1 : n ≤ 9223372036854775807) (w : World) (htab : Lib.TabIs Tryd.prog w "internal/strconv.uint64pow10" .u64 Lib.pow10Tab) :
  Calls Tryd.prog 15 #[.int .i64 n] w fun e w' => e = .returned (.string ⟨(Lib.itoa n).toArray⟩) ∧ ∃ k os, w' = grow (w.drewN k) os := Any.strconv_Itoa Tryd.laysM171 n h0 h1 w htab
def Tryd.lays171_ren : Go.Shelf.Ren := ⟨fun | 171 => 15 | 243 => 38 | 246 => 51 | 283 => 55 | 284 => 56 | 285 => 57 | 286 => 58 | 129 => 61 | 317 => 60 | 318 => 62 | 319 => 63 | 320 => 64 | 337 => 65 | 338 => 66 | n => n, fun | 3 => 3 | 9 => 9 | 2 => 2 | 4 => 4 | 171 => 131 | 0 => 0 | 53 => 132 | 37 => 107 | 5 => 5 | 173 => 135 | 212 => 140 | 51 => 141 | 20 => 20 | 213 => 142 | 46 => 144 | 232 => 147 | 233 => 148 | n => n, fun | 17 => 1 | 18 => 2 | 19 => 3 | n => n⟩
theorem Tryd.lays171 : Go.Proofs.Lays.n171 Tryd.prog Tryd.lays171_ren := {
 mixed := by kernel_rfl
 f129 := Tryd.func61.trans (congrArg some (by kernel_rfl))
 f171 := Tryd.func15.trans (congrArg some (by kernel_rfl))
 f243 := Tryd.func38.trans (congrArg some (by kernel_rfl))
 f246 := Tryd.func51.trans (congrArg some (by kernel_rfl))
 f283 := Tryd.func55.trans (congrArg some (by kernel_rfl))
 f284 := Tryd.func56.trans (congrArg some (by kernel_rfl))
 f285 := Tryd.func57.trans (congrArg some (by kernel_rfl))
 f286 := Tryd.func58.trans (congrArg some (by kernel_rfl))
 f317 := Tryd.func60.trans (congrArg some (by kernel_rfl))
 f318 := Tryd.func62.trans (congrArg some (by kernel_rfl))
 f319 := Tryd.func63.trans (congrArg some (by kernel_rfl))
 f320 := Tryd.func64.trans (congrArg some (by kernel_rfl))
 f337 := Tryd.func65.trans (congrArg some (by kernel_rfl))
 f338 := Tryd.func66.trans (congrArg some (by kernel_rfl))
 t0 := Tryd.underlying0
 a0 := Tryd.isAgg0
 z0 := Tryd.sizeOf0
 v0 := Tryd.zeroValue0
 t2 := Tryd.underlying2
 a2 := Tryd.isAgg2
 z2 := Tryd.sizeOf2
 v2 := Tryd.zeroValue2
 t3 := Tryd.underlying3
 a3 := Tryd.isAgg3
 z3 := Tryd.sizeOf3
 v3 := Tryd.zeroValue3
 t4 := Tryd.underlying4
 a4 := Tryd.isAgg4
 z4 := Tryd.sizeOf4
 v4 := Tryd.zeroValue4
 t5 := Tryd.underlying5
 a5 := Tryd.isAgg5
 z5 := Tryd.sizeOf5
 v5 := Tryd.zeroValue5
 t9 := Tryd.underlying9
 a9 := Tryd.isAgg9
 z9 := Tryd.sizeOf9
 v9 := Tryd.zeroValue9
 t20 := Tryd.underlying20
 a20 := Tryd.isAgg20
 z20 := Tryd.sizeOf20
 v20 := Tryd.zeroValue20
 t37 := Tryd.underlying107
 a37 := Tryd.isAgg107
 z37 := Tryd.sizeOf107
 v37 := Tryd.zeroValue107
 t46 := Tryd.underlying144
 a46 := Tryd.isAgg144
 z46 := Tryd.sizeOf144
 v46 := Tryd.zeroValue144
 t51 := Tryd.underlying141
 a51 := Tryd.isAgg141
 z51 := Tryd.sizeOf141
 v51 := Tryd.zeroValue141
 t53 := Tryd.underlying132
 a53 := Tryd.isAgg132
 z53 := Tryd.sizeOf132
 v53 := Tryd.zeroValue132
 t171 := Tryd.underlying131
 a171 := Tryd.isAgg131
 z171 := Tryd.sizeOf131
 v171 := Tryd.zeroValue131
 t173 := Tryd.underlying135
 a173 := Tryd.isAgg135
 z173 := Tryd.sizeOf135
 v173 := Tryd.zeroValue135
 t212 := Tryd.underlying140
 a212 := Tryd.isAgg140
 z212 := Tryd.sizeOf140
 v212 := Tryd.zeroValue140
 t213 := Tryd.underlying142
 a213 := Tryd.isAgg142
 z213 := Tryd.sizeOf142
 t232 := Tryd.underlying147
 a232 := Tryd.isAgg147
 z232 := Tryd.sizeOf147
 v232 := Tryd.zeroValue147
 t233 := Tryd.underlying148
 a233 := Tryd.isAgg148
 z233 := Tryd.sizeOf148
 v233 := Tryd.zeroValue148
 g17 := by kernel_rfl
 g18 := by kernel_rfl
 g19 := by kernel_rfl }
open Go.RowKit Go.Sort Go.Lib in
theorem Tryd.strconv_Itoa_small (i : Nat) (hi : i < 100) (w : World) :
  Calls Tryd.prog 15 #[.int .i64 i] w fun e w' => e = .returned (.string ⟨(Lib.decDigits i).toArray⟩) ∧ w' = w := Any.strconv_Itoa_small Tryd.lays171 i hi w
end Go.Proofs
/- A builder of strings: its check and what is written to it, at this program. -/
namespace Go.Fn
open Go Go.Proofs Go.Shelf Go.RowKit
set_option maxRecDepth 100000 in
set_option maxHeartbeats 1000000 in
theorem cc_fresh (b : Nat) (w : World) (h0 : w.cell? ⟨b, 0, none⟩ = some (.pointer none)) (hsh : w.shape? b = some (109, 2)) (hfz : w.frozen? ⟨b, 0, none⟩ = false) :
  Calls Tryd.prog 54 #[.pointer (some ⟨b, 0, none⟩)] w fun e w' => e = .returned (.tuple #[]) ∧ w' = w.setCell ⟨b, 0, none⟩ (.pointer (some ⟨b, 0, none⟩)) := by
 obtain ⟨j, hj, hjs⟩ := Option.map_eq_some_iff.1 Tryd.Builder_Extra_169.sizeBuilder
 have t72 := Tryd.underlying109; have a72 := Tryd.isAgg109; have z72 := Tryd.sizeOf109; have v72 := Tryd.zeroValue109; have u72 := run_underlying Tryd.underlying109
 have t70 := Tryd.underlying106; have a70 := Tryd.isAgg106; have z70 := Tryd.sizeOf106; have v70 := Tryd.zeroValue106; have u70 := run_underlying Tryd.underlying106
 have t4 := Tryd.underlying4; have a4 := Tryd.isAgg4; have z4 := Tryd.sizeOf4; have v4 := Tryd.zeroValue4; have u4 := run_underlying Tryd.underlying4
 have t164 := Tryd.underlying87; have a164 := Tryd.isAgg87; have z164 := Tryd.sizeOf87; have v164 := Tryd.zeroValue87; have u164 := run_underlying Tryd.underlying87
 go_enter Tryd.func54, Tryd.ntmps54
 go_wp2
 rw [Lib.run_to_unsafe w ⟨b, 0, none⟩ Tryd.underlying106 Tryd.underlying87 hj (by rw [hjs]; decide) hsh (Nat.zero_lt_succ 1)]
 simp only [Result.andThen]
 rw [Oper.upon_value]
 go_wp2
 rw [run_callFunc_extern Tryd.func59 (by kernel_rfl) (by kernel_rfl) (by kernel_rfl) (e := Extern.AbiNoEscape.same) (by kernel_rfl)]
 rw [Lib.run_noEscape]
 simp only [Result.andThen]
 rw [Oper.upon_value]
 go_wp2
 rw [Lib.run_from_unsafe w ⟨b, 0, none⟩ Tryd.underlying87 Tryd.underlying106 hj hsh Tryd.Builder_Extra_169.liesBuilder]
 simp only [Result.andThen]
 rw [Oper.upon_value]
 go_wp2
 go_end0
 exact ⟨rfl, rfl⟩
set_option maxRecDepth 100000 in
set_option maxHeartbeats 1000000 in
theorem cc_used (b : Nat) (w : World) (h0 : w.cell? ⟨b, 0, none⟩ = some (.pointer (some ⟨b, 0, none⟩))) :
  Calls Tryd.prog 54 #[.pointer (some ⟨b, 0, none⟩)] w fun e w' => e = .returned (.tuple #[]) ∧ w' = w := by
 obtain ⟨j, hj, _⟩ := Option.map_eq_some_iff.1 Tryd.Builder_Extra_169.sizeBuilder
 have t72 := Tryd.underlying109; have a72 := Tryd.isAgg109; have z72 := Tryd.sizeOf109; have v72 := Tryd.zeroValue109; have u72 := run_underlying Tryd.underlying109
 have t70 := Tryd.underlying106; have a70 := Tryd.isAgg106; have z70 := Tryd.sizeOf106; have v70 := Tryd.zeroValue106; have u70 := run_underlying Tryd.underlying106
 have t4 := Tryd.underlying4; have a4 := Tryd.isAgg4; have z4 := Tryd.sizeOf4; have v4 := Tryd.zeroValue4; have u4 := run_underlying Tryd.underlying4
 have t164 := Tryd.underlying87; have a164 := Tryd.isAgg87; have z164 := Tryd.sizeOf87; have v164 := Tryd.zeroValue87; have u164 := run_underlying Tryd.underlying87
 go_enter Tryd.func54, Tryd.ntmps54
 go_wp2
 rw [Lib.run_neq_ptr_same w _ Tryd.underlying106 hj]
 go_wp2
 go_end0
 exact ⟨rfl, rfl⟩
theorem cc_k (B b : Nat) (bs : List Value) (w : World) (h : Lib.IsBuilderF 109 5 B b bs w) :
  Calls Tryd.prog 54 #[.pointer (some ⟨b, 0, none⟩)] w fun e w' => e = .returned (.tuple #[]) ∧ (Lib.BuilderAtF 109 5 B b (.pointer (some ⟨b, 0, none⟩)) bs w' ∧ Below B w w' ∧ Lib.OthersKept 5 (some b) w w') := by
 rcases h with h | h
 ·refine (cc_fresh b w h.cell0 h.shape h.frozen0).mono ?_
  rintro e w' ⟨rfl, rfl⟩
  exact ⟨rfl, h.used _, (Below.refl B w).setCell (p := ⟨b, 0, none⟩) h.1 _, (Lib.OthersKept.refl 5 (some b) w).setCell ⟨b, 0, none⟩ rfl _⟩
 ·refine (cc_used b w h.cell0).mono ?_
  rintro e w' ⟨rfl, rfl⟩
  exact ⟨rfl, h, Below.refl B _, Lib.OthersKept.refl 5 (some b) _⟩
set_option maxHeartbeats 2000000 in
set_option maxRecDepth 100000 in
theorem ws_k (B b : Nat) (bs : List Value) (s : ByteArray) (w : World) (h : Lib.IsBuilderF 109 5 B b bs w) (hlen : bs.length + s.size ≤ 140737488355328) (hBw : B ≤ w.heap.size) :
  Calls Tryd.prog 49 #[.pointer (some ⟨b, 0, none⟩), .string s] w fun e w' => e = .returned (.tuple #[.int .i64 s.size, .nilIface]) ∧ (Lib.BuilderAtF 109 5 B b (.pointer (some ⟨b, 0, none⟩)) (bs ++ Lib.strCells s) w' ∧ Below B w w' ∧ Lib.OthersKept 5 (some b) w w') := by
 obtain ⟨i0, hi, hz0, hz1, hz2⟩ := info_parts Tryd.Builder_Extra_169.infoByte
 have t72 := Tryd.underlying109; have a72 := Tryd.isAgg109; have z72 := Tryd.sizeOf109; have v72 := Tryd.zeroValue109; have u72 := run_underlying Tryd.underlying109
 have t70 := Tryd.underlying106; have a70 := Tryd.isAgg106; have z70 := Tryd.sizeOf106; have v70 := Tryd.zeroValue106; have u70 := run_underlying Tryd.underlying106
 have t37 := Tryd.underlying107; have a37 := Tryd.isAgg107; have z37 := Tryd.sizeOf107; have v37 := Tryd.zeroValue107; have u37 := run_underlying Tryd.underlying107
 have t3 := Tryd.underlying3; have a3 := Tryd.isAgg3; have z3 := Tryd.sizeOf3; have v3 := Tryd.zeroValue3; have u3 := run_underlying Tryd.underlying3
 have t9 := Tryd.underlying9; have a9 := Tryd.isAgg9; have z9 := Tryd.sizeOf9; have v9 := Tryd.zeroValue9; have u9 := run_underlying Tryd.underlying9
 have t4 := Tryd.underlying4; have a4 := Tryd.isAgg4; have z4 := Tryd.sizeOf4; have v4 := Tryd.zeroValue4; have u4 := run_underlying Tryd.underlying4
 have t86 := Tryd.underlying110; have a86 := Tryd.isAgg110; have z86 := Tryd.sizeOf110; have v86 := Tryd.zeroValue110; have u86 := run_underlying Tryd.underlying110
 have t5 := Tryd.underlying5; have a5 := Tryd.isAgg5; have z5 := Tryd.sizeOf5; have v5 := Tryd.zeroValue5; have u5 := run_underlying Tryd.underlying5
 have e240 : ∀ args w, (callFunc 54 args).run Tryd.prog w = .ok (.enter 54 args) w := enters_of Tryd.func54 (by kernel_rfl) rfl
 go_enter Tryd.func49, Tryd.ntmps49
 go_wp2_with (go_at_fn 54; refine (cc_k B b bs _ h).mono ?_)
 rintro e w1 ⟨rfl, h1, hb1, hk1⟩
 obtain ⟨hB, v, hbk, hown, hne⟩ := h1
 have c0 : w1.cell? ⟨b, 0, none⟩ = some (.pointer (some ⟨b, 0, none⟩)) := by rw [Lib.cell_of_heap hbk]; rfl
 have c1 : w1.cell? ⟨b, 1, none⟩ = some v := by rw [Lib.cell_of_heap hbk]; rfl
 go_wp2_with (at_builtin; refine Lib.wpList_append_own_stringF _ rfl _ _ 107 9 rfl B 5 i0 Tryd.underlying107 Tryd.underlying9 hi hz0 hz1 hz2 _ _ _ rfl hown s rfl ?c3 ?c4 ?c5 ?_)
 case c3 => unfold maxLen; omega
 case c4 => omega
 case c5 => have := hb1.size; omega
 intro v' w2 hown' hgrow _
 have hlt : b < w1.heap.size := by
  rcases Nat.lt_or_ge b w1.heap.size with h' | h'
  ·exact h'
  ·simp [Array.getElem?_eq_none h'] at hbk
 have hb2 : w2.heap[b]? = some (.cells #[.pointer (some ⟨b, 0, none⟩), v] 109 (0, 0)) := by
  rw [hgrow.block b hlt (fun e => hne e.symm)]
  exact hbk
 have d0 : w2.cell? ⟨b, 0, none⟩ = some (.pointer (some ⟨b, 0, none⟩)) := by rw [Lib.cell_of_heap hb2]; rfl
 have d1 : w2.cell? ⟨b, 1, none⟩ = some v := by rw [Lib.cell_of_heap hb2]; rfl
 have f1 : w2.frozen? ⟨b, 1, none⟩ = false := Lib.frozen_of_heap hb2 1
 obtain ⟨ao, n', cap, rfl⟩ : ∃ ao n' cap, v' = .slice ao n' cap := by
  rcases hown'.2 with ⟨hv, _⟩ | ⟨g, cap, cur, fz, hv, _⟩
  ·exact ⟨_, _, _, hv⟩
  ·exact ⟨_, _, _, hv⟩
 go_wp2
 go_ret2
 refine ⟨rfl, ?_, ?_, (hk1.grown hgrow (Lib.ownsRowF_kind hown)).setCell ⟨b, 1, none⟩ rfl _⟩
 ·exact Lib.BuilderAtF.put (T := 109) (e := 5) hB hb2 (bs' := bs ++ Lib.strCells s) (by simpa [Lib.strCells_length] using hown') (by decide)
 ·exact (hb1.grown hgrow (by have := hb1.size; omega) (fun k hk => (hown.lt k hk).1)).setCell (p := ⟨b, 1, none⟩) hB _
end Go.Fn
/-
  From a contract of the library to an entry.
-/
namespace Go.Lf
open Go Go.Eng Go.RowKit
theorem argsR_gs {φ : Phi} {ps : List Par} {z : prodT (ps.map Par.ty)} {vals : List Value} {gs : List (Nat × Nat)} {hs : List Chunk} (h : ArgsR φ ps z vals gs hs) (ho : outs ps = []) : gs = [] := by
 induction h with
 | nil => rfl
 | val _ _ _ ih => exact ih ho
 | cfn _ ih => exact ih ho
 | obj _ _ _ => simp [outs] at ho
theorem hb_below {C : Cx} {w w' : World} {I : World → Prop} (hb : Hb C w [] I) (h : Below w.heap.size w w') : Hb C w' [] I :=
 hb.grow ⟨h.os, h.tape, h.output, h.size, fun k hk _ _ => h.block k hk, fun k m hk _ _ => Same.of_block (h.block k hk), fun c hc => (by cases hc)⟩
section
variable {P : Program} {G : World → Prop} {f : Nat} {ps : List Par} {rs : List Ty} {F : prodT (ps.map Par.ty) → Option (prodT (rs ++ outs ps))}
theorem drop_obs (ho : outs ps = []) (r : prodT (rs ++ outs ps)) : (unProd (rs ++ outs ps) r).drop rs.length = [] := by
 refine List.drop_eq_nil_of_le ?_
 have := congrArg List.length (unProd_tys (rs ++ outs ps) r)
 simp [ho] at this
 omega
theorem ent_calls (go : GoFn P f) (top : ∀ t, Par.val t ∈ ps → t.top = true) (ho : outs ps = [])
  (h : ∀ z r w φ vals gs hs, F z = some r → G w → ArgsR φ ps z vals gs hs → Calls P f vals.toArray w fun e w' => (∃ vs, e = .returned (resVal vs) ∧ TupR φ ((unProd (rs ++ outs ps) r).take rs.length) vs []) ∧ Below w.heap.size w w') : EntryOk P G f ⟨ps, rs, F⟩ := by
 refine ⟨go, top, fun z r hz C φ vals gs hs ha hb => ?_⟩
 have hb0 : Hb C C.w0 [] (Inv G φ) := (Sub.nil hs).hb hb
 refine (h z r C.w0 φ vals gs hs hz hb.get.1 ha).mono ?_
 rintro e w' ⟨⟨vs, rfl, ht⟩, hbl⟩
 have hg := argsR_gs ha ho
 subst hg
 refine ⟨_, φ, [], [], rfl, φ.le_refl, hb_below hb0 hbl, ⟨vs, ht, rfl⟩, ?_⟩
 rw [drop_obs ho]
 exact .nil
end
end Go.Lf
/-
  From a function's entry to a row's statement: the arguments are opened, nothing old has turned, so all reads as before.
-/
namespace Go.Lf
open Go Go.Eng Go.RowKit Go.ChangeShapes Go.WideShapes Go.ChangeMaps Go.ChangeAt
section
variable {H : Type} {enc : TypeId × Value → H} {P : Program}
def allRead (P : Program) (ts : List TypeId) : Bool := ts.all fun t => P.readableRec t && decide (t < P.types.size)
theorem trodAll_stay (hl : laidOutB P = true) {W W' : World} (hb : Below W.heap.size W W') : ∀ (ts : List TypeId) (vs : List Value) (ds : List (DataW H)) (ps : List MemPlace), allRead P ts = true →
  DataW.TrodAll enc P W 0 (fun _ => true) true ts vs ds ps → (∀ x ∈ ps, x.block < W.heap.size) → DataW.TrodAll enc P W' 0 (fun b => decide (b < W.heap.size)) true ts vs ds ps
 | [], [], [], _, _, h, _ => h
 | [], _ :: _, _, _, _, h, _ => h.elim
 | [], [], _ :: _, _, _, h, _ => h.elim
 | _ :: _, [], _, _, _, h, _ => h.elim
 | _ :: _, _ :: _, [], _, _, h, _ => h.elim
 | t :: ts, v :: vs, d :: ds, ps, hr, h, hlt => by
  obtain ⟨p, q, h1, h2, rfl⟩ := h
  simp only [allRead, List.all_cons, Bool.and_eq_true, decide_eq_true_eq] at hr
  exact ⟨p, q, Below.trod hl hr.1.1 hr.1.2 h1 hb (fun x hx => hlt x (List.mem_append_left _ hx)), trodAll_stay hl hb ts vs ds q hr.2 h2 (fun x hx => hlt x (List.mem_append_right _ hx)), rfl⟩
theorem law_post {f : Func} {s : ChangeSpec} {W W' : World} {args : Array Value} {ds gs : List (DataW H)} {before : List MemPlace} {tb : TypeId} (hl : laidOutB P = true) (hr : allRead P f.params.toList = true) (hv : s.vars = [])
  (hres : f.resultTypes = #[tb]) (htb : P.underlying tb = some .bool) (hW : DataW.Whole enc P f.params.toList s.vars false W args.toList ds gs before)
  (hs : s.fn H (ds ++ gs) = { results := [.lit (.bool true)], args := ds, vars := [] }) (hb : Below W.heap.size W W') : s.post enc P f false true false false W args (.bool true) W' := by
 have hlt : ∀ p ∈ before, p.block < W.heap.size := fun p hp => hW.lt p hp
 have hW0 := hW
 obtain ⟨p, q, hA, hV, hps, _, _⟩ := hW
 rw [hv] at hV
 obtain ⟨rfl, rfl⟩ := trodVars_none hV
 refine ⟨ds, [], before, [], p, [], hW0, ?_, ?_, ?_, hb.frame _, fun h => by cases h⟩
 ·rw [hs, hres]
  exact trodAll_mk1 (shut_bool htb true)
 ·rw [hs]
  exact trodAll_stay hl hb _ _ _ _ hr hA (fun x hx => hlt x (by rw [hps]; exact List.mem_append_left _ hx))
 ·rw [hs, hv]
  rfl
end
def start (W : World) : Cx := ⟨W, [], fun _ => none⟩
def Lasts (W : World) (I : World → Prop) : Prop := ∀ w', Below W.heap.size W w' → I w'
theorem Lasts.and {W : World} {I J : World → Prop} (h : Lasts W I) (k : Lasts W J) : Lasts W (fun w => I w ∧ J w) := fun w' hb => ⟨h w' hb, k w' hb⟩
theorem Lasts.of {W : World} {p : Prop} (h : p) : Lasts W (fun _ => p) := fun _ _ => h
theorem hb_start {W : World} {I : World → Prop} (h : Lasts W I) : Hb (start W) (start W).w0 [] I :=
 ⟨⟨rfl, rfl, rfl, Nat.le_refl _, fun _ _ _ => rfl, fun c hc => absurd hc (by simp [start]), fun c hc => absurd hc (by simp [start]), fun c hc => absurd hc (by simp), fun c hc => absurd hc (by simp), List.Pairwise.nil, fun k m hk => by cases hk⟩,
  fun w' hx => h w' ⟨hx.os, hx.tape, hx.output, hx.size, fun k hk => hx.block k hk rfl (fun c hc => absurd hc (by simp))⟩⟩
theorem cell_lt {W : World} {a : Addr} {v : Value} (h : W.cell? a = some v) : a.block < W.heap.size := by
 rcases Nat.lt_or_ge a.block W.heap.size with h1 | h1
 ·exact h1
 ·simp [World.cell?, Array.getElem?_eq_none h1] at h
def phiOf (W : World) : Phi := ⟨fun a => W.cell? a, fun _ => False⟩
theorem lasts_agree (W : World) : Lasts W (Agree (phiOf W)) := fun _ hb => ⟨fun _ _ h => (hb.cell (cell_lt h)).trans h, fun _ h => h.elim⟩
theorem law_calls {P : Program} {G : World → Prop} {f : Nat} {e : Entry} {z : prodT (e.ps.map Par.ty)} {W : World} {vals : List Value} (he : EntryOk P G f e) (hr : e.rs = [.bool]) (_ho : outs e.ps = []) {r : prodT (e.rs ++ outs e.ps)} (hz : e.f z = some r) (ht : unProd (e.rs ++ outs e.ps) r = [⟨.bool, true⟩])
  (ha : ArgsR (phiOf W) e.ps z vals [] []) (hG : Lasts W G) : Calls P f vals.toArray W fun e W' => e = .returned (.bool true) ∧ Below W.heap.size W W' := by
 refine Calls.mono (he.ok z r hz (start W) (phiOf W) vals [] [] ha (hb_start (hG.and (lasts_agree W)))) ?_
 rintro x w' ⟨v, φ', h1, h2, rfl, _, hb, ⟨vs, hv, rfl⟩, _⟩
 rw [ht, hr] at hv
 refine ⟨?_, hb.hp.os, hb.hp.tape, hb.hp.output, hb.hp.size, fun k hk => hb.hp.keep k hk (by simp [start, free])⟩
 cases hv with
 | cons a1 a2 a3 =>
  cases a3
  obtain ⟨rfl, _⟩ := a2
  rfl
section
variable {H : Type} (enc : TypeId × Value → H) (P : Program) (W : World)
def Light (P : Program) (t : TypeId) (d : DataW H) : Prop := ∀ x ∈ d.weights P t, x ≤ reachBytes
end
def rnd (o a : Nat) : Nat := (o + a - 1) / a * a
def Ty.aln : Ty → Nat
 | .int k => k.bits / 8
 | .bool => 1
 | .unit => 1
 | .st t => t.aln
 | .pr a b => max a.aln b.aln
 | _ => 8
mutual
def Ty.byt : Ty → Nat
 | .int k => k.bits / 8
 | .bool => 1
 | .str => 16
 | .sl _ => 24
 | .rw _ _ => 24
 | .mr _ _ => 24
 | .it => 8
 | .itd => 8
 | .dead _ _ => 24
 | .eb _ _ => 16
 | .op _ => 8
 | .bx _ _ => 8
 | .on _ => 8
 | .fl _ => 8
 | .bo _ _ => 8
 | .bn => 8
 | .tr => 16
 | .ml _ _ _ => 24
 | .ptr _ => 8
 | .st t => rnd (t.end_ 0) t.aln
 | _ => 0
def Ty.end_ : Ty → Nat → Nat
 | .pr a b, o => b.end_ (rnd o a.aln + a.byt)
 | _, o => o
end
def Wf : (t : Ty) → t.den → Prop
 | .int k, x => k.min ≤ x ∧ x ≤ k.max
 | .str, x => List.length x ≤ 140737488351232
 | .sl t, l => List.length l * t.byt ≤ 140737488351232 ∧ ∀ x ∈ (l : List t.den), Wf t x
 | .st t, x => Wf t x
 | .pr a b, x => Wf a x.1 ∧ Wf b x.2
 | _, _ => True
def Sz : (t : Ty) → t.den → Nat
 | .str, x => List.length x
 | .sl t, l => ((l : List t.den).map (Sz t)).sum + List.length l
 | .st t, x => Sz t x
 | .pr a b, x => Sz a x.1 + Sz b x.2
 | _, _ => 0
mutual
def bulk {H : Type} : DataW H → Nat
 | .lit (.string b) => b.length
 | .slice es _ => bulkAll es + es.length
 | .agg ps => bulkAll ps
 | _ => 0
def bulkAll {H : Type} : List (DataW H) → Nat
 | [] => 0
 | d :: r => bulk d + bulkAll r
end
theorem bulkAll_map {H : Type} : ∀ l : List (DataW H), bulkAll l = (l.map bulk).sum
 | [] => rfl
 | d :: r => by
  rw [bulkAll, bulkAll_map r]; rfl
theorem sum_le2 {α β : Type} {f : α → Nat} {g : β → Nat} : ∀ {l : List α} {m : List β}, l.length = m.length → (∀ (i : Nat) x y, l[i]? = some x → m[i]? = some y → f x ≤ g y) → (l.map f).sum ≤ (m.map g).sum
 | [], [], _, _ => Nat.le_refl _
 | [], _ :: _, h, _ => by simp at h
 | _ :: _, [], h, _ => by simp at h
 | x :: l, y :: m, h, hR => by
  have h1 := hR 0 x y rfl rfl
  have h2 := sum_le2 (l := l) (m := m) (by simpa using h) fun i a b ha hb => hR (i + 1) a b (by simpa using ha) (by simpa using hb)
  simp only [List.map_cons, List.sum_cons]
  omega
def opB (P : Program) : Ty → TypeId ⊕ (List Field × Nat) → Bool
 | .int k, .inl t => match P.underlying t with | some (.int k') => decide (k = k') | _ => false
 | .bool, .inl t => match P.underlying t with | some .bool => true | _ => false
 | .str, .inl t => match P.underlying t with | some .string => true | _ => false
 | .sl a, .inl t => match P.underlying t with | some (.slice e) => Nat.beq (P.cellsOf e) a.size && Nat.blt 0 a.size && Nat.beq (P.bytesOf e) a.byt && opB P a (.inl e) | _ => false
 | .st c, .inl t => match P.underlying t with | some (.struct fs) => Nat.beq (P.cellsOf t) c.size && opB P c (.inr (fs.toList, 0)) | _ => false
 | .pr a b, .inr (f :: fs, o) => Nat.beq f.offset o && Nat.beq (P.cellsOf f.type) a.size && opB P a (.inl f.type) && opB P b (.inr (fs, o + a.size))
 | .unit, .inr ([], _) => true
 | _, _ => false
section
variable {H : Type} (enc : TypeId × Value → H) (P : Program) (W : World)
def OpnT (t : TypeId) (a : Ty) : Prop :=
 ∀ fuel cs d ps, DataW.trod enc P W 0 (fun _ => true) true fuel t cs = some (d, ps) → Light P t d → ∃ x : a.den, Rp (phiOf W) a x cs [] ∧ Wf a x ∧ Sz a x ≤ bulk d
def OpnF (size o : Nat) (fs : List Field) (a : Ty) : Prop :=
 ∀ (n : Nat) (cs : List Value) (xs : List (DataW H × List MemPlace)), cs.length = size → xs.length = fs.length →
  (∀ (i : Nat) (f : Field), fs[i]? = some f → DataW.trod enc P W 0 (fun _ => true) true n f.type ((cs.drop f.offset).take (P.cellsOf f.type)) = xs[i]?) →
  (∀ (i : Nat) (f : Field) y, fs[i]? = some f → xs[i]? = some y → Light P f.type y.1) → o + a.size = size → ∃ x : a.den, Rp (phiOf W) a x (cs.drop o) [] ∧ Wf a x ∧ Sz a x ≤ bulkAll (xs.map (·.1))
end
section
variable {H : Type} {enc : TypeId × Value → H} {P : Program} {W : World} {t e : TypeId}
theorem light_slice {es sp : List (DataW H)} (ht : P.underlying t = some (.slice e)) (hl : Light P t (.slice es sp)) : es.length * P.bytesOf e ≤ 140737488351232 ∧ ∀ d ∈ es, Light P e d := by
 unfold Light at hl
 simp only [DataW.weights, ht] at hl
 have h7 : reachBytes = 140737488351232 := by decide
 constructor
 ·have h1 := hl _ (List.mem_cons_self ..)
  have h2 : es.length * P.bytesOf e ≤ (es.length + sp.length) * P.bytesOf e := Nat.mul_le_mul_right _ (by omega)
  omega
 ·intro d hd x hx
  refine hl x (List.mem_cons_of_mem _ (List.mem_append_left _ ?_))
  clear hl
  induction es with
  | nil => cases hd
  | cons a r ih =>
   simp only [DataW.weightsAll]
   rcases List.mem_cons.1 hd with rfl | h
   ·exact List.mem_append_left _ hx
   ·exact List.mem_append_right _ (ih h)
theorem light_agg {fs : Array Field} {ds : List (DataW H)} (ht : P.underlying t = some (.struct fs)) (hl : Light P t (.agg ds)) : ∀ (i : Nat) (f : Field) y, fs.toList[i]? = some f → ds[i]? = some y → Light P f.type y := by
 unfold Light at hl
 simp only [DataW.weights, ht] at hl
 have key : ∀ (l : List Field) (ds : List (DataW H)), (∀ x ∈ DataW.weightsEach P (l.map (·.type)) ds, x ≤ reachBytes) → ∀ (i : Nat) (f : Field) y, l[i]? = some f → ds[i]? = some y → Light P f.type y := by
  intro l
  induction l with
  | nil => intro ds _ i f y h; simp at h
  | cons g r ih =>
   intro ds hl i f y hf hy
   cases ds with
   | nil => simp at hy
   | cons d q =>
    simp only [List.map_cons, DataW.weightsEach] at hl
    cases i with
    | zero =>
     simp at hf hy
     subst hf hy
     exact fun x hx => hl x (List.mem_append_left _ hx)
    | succ i => exact ih q (fun x hx => hl x (List.mem_append_right _ hx)) i f y (by simpa using hf) (by simpa using hy)
 exact key fs.toList ds hl
theorem list_choose {α : Type} {p : Nat → α → Prop} : ∀ n, (∀ i, i < n → ∃ x, p i x) → ∃ l : List α, l.length = n ∧ ∀ i x, l[i]? = some x → p i x
 | 0, _ => ⟨[], rfl, fun i x h => by simp at h⟩
 | n + 1, h => by
  obtain ⟨l, h1, h2⟩ := list_choose n (fun i hi => h i (by omega))
  obtain ⟨x, hx⟩ := h n (by omega)
  refine ⟨l ++ [x], by simp [h1], fun i y hy => ?_⟩
  by_cases hi : i < n
  ·rw [List.getElem?_append_left (by omega)] at hy; exact h2 i y hy
  ·rw [List.getElem?_append_right (by omega)] at hy
   have h3 : i = n := by
    have := (List.getElem?_eq_some_iff.1 hy).1
    simp at this; omega
   subst h3
   rw [h1, Nat.sub_self] at hy
   simp at hy
   subst hy; exact hx
theorem all2_of {α β : Type} {R : α → β → Prop} : ∀ {l : List α} {m : List β}, l.length = m.length → (∀ (i : Nat) x y, l[i]? = some x → m[i]? = some y → R x y) → All2 R l m
 | [], [], _, _ => .nil
 | [], _ :: _, h, _ => by simp at h
 | _ :: _, [], h, _ => by simp at h
 | x :: l, y :: m, h, hR => .cons (hR 0 x y rfl rfl) (all2_of (by simpa using h) fun i a b ha hb => hR (i + 1) a b (by simpa using ha) (by simpa using hb))
theorem flat_at {s : Nat} (hs : 0 < s) : ∀ (l : List (List Value)), (∀ c ∈ l, c.length = s) → ∀ (j : Nat) (v : Value), l.flatten[j]? = some v → ∃ i k c, j = i * s + k ∧ l[i]? = some c ∧ c[k]? = some v
 | [], _, j, v, h => by simp at h
 | d :: r, hl, j, v, h => by
  have h1 := hl d List.mem_cons_self
  rw [List.flatten_cons] at h
  by_cases hj : j < s
  ·rw [List.getElem?_append_left (by omega)] at h
   exact ⟨0, j, d, by omega, rfl, h⟩
  ·rw [List.getElem?_append_right (by omega), h1] at h
   obtain ⟨i, k, c, e1, e2, e3⟩ := flat_at hs r (fun c hc => hl c (List.mem_cons_of_mem _ hc)) (j - s) v h
   exact ⟨i + 1, k, c, by rw [Nat.succ_mul]; omega, by simpa using e2, e3⟩
theorem opn_ok : ∀ (a : Ty), (∀ t, opB P a (.inl t) = true → OpnT enc P W t a) ∧ (∀ fs o size, opB P a (.inr (fs, o)) = true → OpnF enc P W size o fs a)
 | .int k => by
  refine ⟨fun t h => ?_, fun fs o size h => by cases fs <;> simp [opB] at h⟩
  ·skip
   unfold opB at h
   split at h
   ·rename_i k' hu
    have h := of_decide_eq_true h
    subst h
    intro fuel cs d ps ht _
    obtain ⟨n, h1, h2, h3⟩ := DataW.trod_int hu ht
    exact ⟨n, ⟨h1, rfl⟩, by
     have h4 : k.min ≤ n ∧ n ≤ k.max := by simpa [Lit.wf] using h3
     exact ⟨h4, Nat.zero_le _⟩⟩
   ·cases h
 | .bool => by
  refine ⟨fun t h => ?_, fun fs o size h => by cases fs <;> simp [opB] at h⟩
  ·skip
   unfold opB at h
   split at h
   ·rename_i hu
    intro fuel cs d ps ht _
    cases fuel with
    | zero => simp [DataW.trod] at ht
    | succ n =>
     unfold DataW.trod at ht
     rw [hu] at ht
     split at ht <;> simp_all [Rp, Wf, Sz]
   ·cases h
 | .str => by
  refine ⟨fun t h => ?_, fun fs o size h => by cases fs <;> simp [opB] at h⟩
  ·skip
   unfold opB at h
   split at h
   ·rename_i hu
    intro fuel cs d ps ht hl
    obtain ⟨s, h1, h2, h3⟩ := DataW.trod_string hu ht
    injection h2 with h4 h5
    subst h4
    refine ⟨s.data.toList, ⟨by rw [h1], rfl⟩, ?_⟩
    have h6 := hl s.data.toList.length (by simp [DataW.weights])
    have h7 : reachBytes = 140737488351232 := by decide
    refine ⟨?_, Nat.le_refl _⟩
    show s.data.toList.length ≤ _
    omega
   ·cases h
 | .unit => ⟨fun t h => by simp [opB] at h, fun fs o size h => by
   cases fs with
   | cons f r => simp [opB] at h
   | nil =>
    intro n cs xs hs _ _ _ hz
    have : o = cs.length := by rw [hs]; exact hz
    exact ⟨(), ⟨List.drop_eq_nil_of_le (by omega), rfl⟩, trivial, Nat.zero_le _⟩⟩
 | .sl a => by
  refine ⟨fun t h => ?_, fun fs o size h => by cases fs <;> simp [opB] at h⟩
  ·skip
   unfold opB at h
   split at h
   case h_2 => cases h
   case h_1 e hu =>
   simp only [Bool.and_eq_true] at h
   obtain ⟨⟨⟨h1, h2⟩, h3⟩, h4⟩ := h
   have hn := Nat.eq_of_beq_eq_true h1
   have h0 : 0 < a.size := by simpa [Nat.blt_eq] using h2
   have hb := Nat.eq_of_beq_eq_true h3
   have he := (opn_ok a).1 e h4
   intro fuel cs d ps hd hl
   rcases DataW.trod_slice hu hd with ⟨g1, g2⟩ | ⟨ad, len, cap, elems, rest, m, _, rfl, hx, _, hlc, _, hlen, hel, _, _⟩
   ·exact ⟨([] : List a.den), ⟨none, 0, [], g1, Nat.le_refl _, .nil, fun hn => absurd hn (by simp), rfl⟩, by simp [Wf], Nat.zero_le _⟩
   ·injection hx with hx1 hx2
    subst hx1
    obtain ⟨hl1, hl2⟩ := light_slice hu hl
    rw [List.length_map, hlen, hb] at hl1
    have each : ∀ i, i < len → ∃ q : a.den × List Value, Rp (phiOf W) a q.1 q.2 [] ∧ Wf a q.1 ∧ (∀ k u, q.2[k]? = some u → W.cell? (ad.add (i * a.size + k)) = some u) ∧ ∀ y, elems[i]? = some y → Sz a q.1 ≤ bulk y.1 := by
     intro i hi
     obtain ⟨y, hy⟩ : ∃ y, elems[i]? = some y := ⟨_, List.getElem?_eq_getElem (by omega)⟩
     have h3 := hel i hi
     rw [hy, hn, Option.bind_eq_some_iff] at h3
     obtain ⟨cs', h4, h5⟩ := h3
     obtain ⟨y1, y2⟩ := y
     obtain ⟨x, h6, h7, h7b⟩ := he m cs' y1 y2 h5 (hl2 y1 (List.mem_map.2 ⟨(y1, y2), List.mem_of_getElem? hy, rfl⟩))
     obtain ⟨_, h8, h9⟩ := World.cells?_some h4
     refine ⟨(x, cs'), h6, h7, fun k u hu => ?_, fun y' hy' => (by rw [hy] at hy'; injection hy' with hy'; rw [← hy']; exact h7b)⟩
     have hk : k < a.size := by rw [← h6.len]; exact (List.getElem?_eq_some_iff.1 hu).1
     have := h9 k hk
     rw [hu, add_add'] at this
     exact this
    obtain ⟨l, h10, h11⟩ := list_choose len each
    have hll : (l.map (·.1)).length = len := by rw [List.length_map, h10]
    have hall : All2 (fun x cs => Rp (phiOf W) a x cs []) (l.map (·.1)) (l.map (·.2)) := all2_of (by simp) fun i x y hx hy => by
     rw [List.getElem?_map] at hx hy
     cases hq : l[i]? with
     | none => rw [hq] at hx; cases hx
     | some q =>
      rw [hq] at hx hy
      simp only [Option.map_some, Option.some.injEq] at hx hy
      subst hx hy
      exact (h11 i q hq).1
    refine ⟨l.map (·.1), ⟨some ad, cap, l.map (·.2), ?_, ?_, hall, fun _ => ⟨ad, rfl, fun j v hv => ?_⟩, rfl⟩, ⟨?_, fun x hx => ?_⟩, ?_⟩
    ·show [Value.slice (some ad) len cap] = [Value.slice (some ad) (l.map (·.1)).length cap]
     rw [hll]
    ·show (l.map (·.1)).length ≤ cap
     omega
    ·obtain ⟨i, k, c, rfl, e2, e3⟩ := flat_at h0 (l.map (·.2)) (fun c hc => by
      obtain ⟨q, hq, rfl⟩ := List.mem_map.1 hc
      obtain ⟨i, hi⟩ := List.getElem?_of_mem hq
      exact (h11 i q hi).1.len) j v hv
     rw [List.getElem?_map] at e2
     cases hq : l[i]? with
     | none => rw [hq] at e2; cases e2
     | some q =>
      rw [hq] at e2
      simp only [Option.map_some, Option.some.injEq] at e2
      subst e2
      exact (h11 i q hq).2.2.1 k v e3
    ·show (l.map (·.1)).length * a.byt ≤ _
     rw [hll]; exact hl1
    ·obtain ⟨q, hq, rfl⟩ := List.mem_map.1 hx
     obtain ⟨i, hi⟩ := List.getElem?_of_mem hq
     exact (h11 i q hi).2.1
    ·show ((l.map (·.1)).map (Sz a)).sum + (l.map (·.1)).length ≤ bulkAll (elems.map (·.1)) + (elems.map (·.1)).length
     rw [bulkAll_map, hll, List.length_map, hlen]
     refine Nat.add_le_add_right (sum_le2 (by rw [hll, List.length_map, hlen]) fun i x y hx hy => ?_) _
     rw [List.getElem?_map] at hx hy
     cases hq : l[i]? with
     | none => rw [hq] at hx; cases hx
     | some q =>
      cases he2 : elems[i]? with
      | none => rw [he2] at hy; cases hy
      | some z =>
       rw [hq] at hx
       rw [he2] at hy
       simp only [Option.map_some, Option.some.injEq] at hx hy
       subst hx hy
       exact (h11 i q hq).2.2.2 z he2
 | .st c => by
  refine ⟨fun t h => ?_, fun fs o size h => by cases fs <;> simp [opB] at h⟩
  ·skip
   unfold opB at h
   split at h
   case h_2 => cases h
   case h_1 fs hu =>
   simp only [Bool.and_eq_true] at h
   have hs := Nat.eq_of_beq_eq_true h.1
   have hF := (opn_ok c).2 fs.toList 0 c.size h.2
   intro fuel cs d ps hd hl
   obtain ⟨xs, n, _, hx, hcl, hxl, hf⟩ := DataW.trod_struct hu hd
   injection hx with hx1 hx2
   subst hx1
   have hla := light_agg hu hl
   obtain ⟨x, h1, h2, h3⟩ := hF n cs xs (by rw [hcl, hs]) (by simpa using hxl) (fun i f hi => hf i f (by simpa using hi)) (fun i f y hi hy => hla i f y.1 hi (by simp [hy])) (by simp)
   have h1 : Rp (phiOf W) c x cs [] := by simpa using h1
   exact ⟨x, h1, h2, h3⟩
 | .pr a b => ⟨fun t h => by simp [opB] at h, fun fs o size h => by
   cases fs with
   | nil => simp [opB] at h
   | cons f fs =>
    unfold opB at h
    simp only [Bool.and_eq_true] at h
    obtain ⟨⟨⟨h1, h2⟩, h3⟩, h4⟩ := h
    have ho := Nat.eq_of_beq_eq_true h1
    have hm := Nat.eq_of_beq_eq_true h2
    have ha := (opn_ok a).1 _ h3
    have hb := (opn_ok b).2 fs (o + a.size) size h4
    intro n cs xs hs hxl hx hl hz
    cases xs with
    | nil => simp at hxl
    | cons y ys =>
     have h3 := hx 0 f rfl
     rw [ho, hm] at h3
     obtain ⟨y1, y2⟩ := y
     obtain ⟨x, g1, g2, g2b⟩ := ha n _ y1 y2 h3 (hl 0 f (y1, y2) rfl rfl)
     obtain ⟨z, g3, g4, g4b⟩ := hb n cs ys hs (by simpa using hxl) (fun i g hg => by simpa using hx (i + 1) g (by simpa using hg)) (fun i g y hg hy => hl (i + 1) g y (by simpa using hg) (by simpa using hy)) (by rw [← hz]; simp [Ty.size]; omega)
     refine ⟨(x, z), ⟨_, _, [], [], ?_, rfl, g1, g3⟩, ⟨g2, g4⟩, Nat.add_le_add g2b g4b⟩
     rw [← List.drop_drop, List.take_append_drop]⟩
 | .it => ⟨fun t h => by simp [opB] at h, fun fs o size h => by cases fs <;> simp [opB] at h⟩
 | .itd => ⟨fun t h => by simp [opB] at h, fun fs o size h => by cases fs <;> simp [opB] at h⟩
 | .dead _ _ => ⟨fun t h => by simp [opB] at h, fun fs o size h => by cases fs <;> simp [opB] at h⟩
 | .rw _ _ => ⟨fun t h => by simp [opB] at h, fun fs o size h => by cases fs <;> simp [opB] at h⟩
 | .mr _ _ => ⟨fun t h => by simp [opB] at h, fun fs o size h => by cases fs <;> simp [opB] at h⟩
 | .ptr _ => ⟨fun t h => by simp [opB] at h, fun fs o size h => by cases fs <;> simp [opB] at h⟩
 | .eb _ _ => ⟨fun t h => by simp [opB] at h, fun fs o size h => by cases fs <;> simp [opB] at h⟩
 | .op _ => ⟨fun t h => by simp [opB] at h, fun fs o size h => by cases fs <;> simp [opB] at h⟩
 | .bx _ _ => ⟨fun t h => by simp [opB] at h, fun fs o size h => by cases fs <;> simp [opB] at h⟩
 | .bo _ _ => ⟨fun t h => by simp [opB] at h, fun fs o size h => by cases fs <;> simp [opB] at h⟩
 | .bn => ⟨fun t h => by simp [opB] at h, fun fs o size h => by cases fs <;> simp [opB] at h⟩
 | .tr => ⟨fun t h => by simp [opB] at h, fun fs o size h => by cases fs <;> simp [opB] at h⟩
 | .ml _ _ _ => ⟨fun t h => by simp [opB] at h, fun fs o size h => by cases fs <;> simp [opB] at h⟩
 | .on _ => ⟨fun t h => by simp [opB] at h, fun fs o size h => by cases fs <;> simp [opB] at h⟩
 | .fl _ => ⟨fun t h => by simp [opB] at h, fun fs o size h => by cases fs <;> simp [opB] at h⟩
theorem light_arg {ts : List TypeId} {ds : List (DataW H)} {j : Nat} {t : TypeId} {d : DataW H} (hz : (DataW.weightsEach P ts ds).all (· ≤ reachBytes) = true) (ht : ts[j]? = some t) (hd : ds[j]? = some d) : Light P t d := by
 intro x hx
 have h1 : ∀ y ∈ DataW.weightsEach P ts ds, y ≤ reachBytes := fun y hy => by simpa using List.all_eq_true.1 hz y hy
 clear hz
 induction ts generalizing ds j with
 | nil => simp at ht
 | cons a r ih =>
  cases ds with
  | nil => simp at hd
  | cons b q =>
   simp only [DataW.weightsEach] at h1
   cases j with
   | zero =>
    simp at ht hd
    subst ht hd
    exact h1 x (List.mem_append_left _ hx)
   | succ j => exact ih (by simpa using ht) (by simpa using hd) (fun y hy => h1 y (List.mem_append_right _ hy))
theorem open_argB {a : Ty} {v : Value} {d : DataW H} {ps : List MemPlace} {base : Nat} (ha : opB P a (.inl t) = true) (hv : Value.okWide P W .any base t v) (h : DataW.Trod enc P W 0 (fun _ => true) true t v d ps) (hl : Light P t d) :
  ∃ (x : a.den) (cs : List Value), a.top = true ∧ v = sv a cs ∧ Rp (phiOf W) a x cs [] ∧ Wf a x ∧ Sz a x ≤ bulk d := by
 obtain ⟨fuel, hf⟩ := h
 obtain ⟨x, h1, h2, h2b⟩ := (opn_ok (enc := enc) (W := W) a).1 t ha fuel _ d ps hf hl
 refine ⟨x, v.cells.toList, ?_, ?_, h1, h2, h2b⟩
 ·cases a <;> first | rfl | (simp [opB] at ha; done)
 ·cases a <;> first | (simp [opB] at ha; done) | skip
  all_goals unfold opB at ha
  all_goals split at ha <;> first | (cases ha; done) | skip
  all_goals rename_i hu
  ·obtain ⟨n, rfl⟩ := okWide_int hu hv; rfl
  ·obtain ⟨n, rfl⟩ := okWide_bool hu hv; rfl
  ·obtain ⟨n, rfl⟩ := okWide_string hu hv; rfl
  ·obtain ⟨A, n, c, rfl⟩ := okWide_slice hu hv; rfl
  ·obtain ⟨cs, rfl, _⟩ := okWide_struct hu hv; rfl
theorem open_arg {a : Ty} {v : Value} {d : DataW H} {ps : List MemPlace} {base : Nat} (ha : opB P a (.inl t) = true) (hv : Value.okWide P W .any base t v) (h : DataW.Trod enc P W 0 (fun _ => true) true t v d ps) (hl : Light P t d) :
  ∃ (x : a.den) (cs : List Value), a.top = true ∧ v = sv a cs ∧ Rp (phiOf W) a x cs [] ∧ Wf a x :=
 let ⟨x, cs, h1, h2, h3, h4, _⟩ := open_argB ha hv h hl
 ⟨x, cs, h1, h2, h3, h4⟩
end
end Go.Lf
/- The library's functions, as entries. -/
namespace Go.Fn
open Go Go.Lf Go.Eng Go.RowKit Go.Proofs Go.Shelf
abbrev I64 (n : Int) : Prop := -9223372036854775808 ≤ n ∧ n ≤ 9223372036854775807
abbrev NumOk (n : Int) : Prop := 0 ≤ n ∧ n < 100
theorem numOk_i64 {n : Int} (h : NumOk n) : -9223372036854775808 ≤ n ∧ n ≤ 9223372036854775807 := by omega
abbrev PowT (_ : World) : Prop := True
theorem pow_below {w w' : World} (_ : PowT w) (_ : Below w.heap.size w w') : PowT w' := trivial
theorem itoa_kk (n : Int) (h : NumOk n) (w : World) (_ : PowT w) : Calls Tryd.prog 15 #[.int .i64 n] w fun e w' => e = .returned (.string ⟨(Lib.itoa n).toArray⟩) ∧ Below w.heap.size w w' := by
 obtain ⟨i, rfl⟩ : ∃ i : Nat, n = (i : Int) := ⟨n.toNat, by omega⟩
 refine (Tryd.strconv_Itoa_small i (by omega) w).mono ?_
 rintro e w' ⟨rfl, rfl⟩
 refine ⟨?_, Below.refl _ _⟩
 have : Lib.itoa (i : Int) = Lib.decDigits i := by
  unfold Lib.itoa
  rw [if_neg (by omega)]
  rfl
 rw [this]
def GG (w : World) : Prop := PowT w ∧ w.cell? ⟨0, 0, none⟩ = some (.iface 114 (.agg #[.pointer (some ⟨5, 28, none⟩)]))
def strconv_Itoa (n : Int) : Option (List UInt8) := if NumOk n then some (Lib.itoa n) else none
def strconv_ItoaEnt : Nat × Entry := (15, ⟨[.val (.int .i64)], [.str], fun z => strconv_Itoa z⟩)
theorem strconv_Itoa_ok : EntryOk Tryd.prog GG 15 strconv_ItoaEnt.2 := by
 refine ent_calls (ps := [.val (.int .i64)]) (rs := [.str]) (GoFn.mk Tryd.f15 (by kernel_rfl) (by kernel_rfl) (by kernel_rfl)) (by simp [Ty.top]) rfl fun z r w φ vals gs hs hz hG ha => ?_
 have hz : strconv_Itoa z = some r := hz
 unfold strconv_Itoa at hz
 split at hz
 case isFalse => cases hz
 case isTrue h01 =>
 injection hz with hz
 subst hz
 cases ha with
 | val h1 h2 h3 =>
 cases h3
 obtain ⟨rfl, _⟩ := h2
 refine (itoa_kk z h01 w hG.1).mono ?_
 rintro e w' ⟨rfl, hb⟩
 exact ⟨⟨[Eng.str (Lib.itoa z)], rfl, TupR.cons (t := .str) (x := Lib.itoa z) (cs := [_]) (h := []) (hs := []) rfl ⟨rfl, rfl⟩ .nil⟩, hb⟩
end Go.Fn
/- What an error of ours says, walked. -/
namespace Go.Fn
open Go Go.Proofs Go.Shelf Go.RowKit
set_option maxHeartbeats 1000000 in
set_option maxRecDepth 100000 in
theorem is_walk (ad : Addr) (w : World) (h0 : w.cell? ad = some (.int .i64 1)) : Calls Tryd.prog 44 #[.pointer (some ad)] w fun e w' => e = .returned (.bool true) ∧ w' = w := by
 have t37 := Tryd.underlying37; have a37 := Tryd.isAgg37; have z37 := Tryd.sizeOf37; have v37 := Tryd.zeroValue37; have u37 := run_underlying Tryd.underlying37
 have t60 := Tryd.underlying60; have a60 := Tryd.isAgg60; have z60 := Tryd.sizeOf60; have v60 := Tryd.zeroValue60; have u60 := run_underlying Tryd.underlying60
 have t4 := Tryd.underlying4; have a4 := Tryd.isAgg4; have z4 := Tryd.sizeOf4; have v4 := Tryd.zeroValue4; have u4 := run_underlying Tryd.underlying4
 have t3 := Tryd.underlying3; have a3 := Tryd.isAgg3; have z3 := Tryd.sizeOf3; have v3 := Tryd.zeroValue3; have u3 := run_underlying Tryd.underlying3
 go_enter Tryd.func44, Tryd.ntmps44
 go_wp2
 go_ret
 exact ⟨rfl, rfl⟩
def ErrAt (w : World) (ad : Addr) (c src line col : Int) (word : ByteArray) (tr : Value) : Prop := w.cell? ad = some (.int .i64 1) ∧ w.cell? ⟨ad.block, ad.off + 1, none⟩ = some (.int .i64 c) ∧ w.cell? ⟨ad.block, ad.off + 2, none⟩ = some (.int .i64 src) ∧ w.cell? ⟨ad.block, ad.off + 3, none⟩ = some (.int .i64 line) ∧ w.cell? ⟨ad.block, ad.off + 4, none⟩ = some (.int .i64 col) ∧ w.cell? ⟨ad.block, ad.off + 5, none⟩ = some (.string word) ∧ w.cell? ⟨ad.block, ad.off + 6, none⟩ = some tr
theorem cell_below {w w' : World} {a : Addr} {v : Value} (hv : w.cell? a = some v) (hb : Below w.heap.size w w') : w'.cell? a = some v := by
 have hlt : a.block < w.heap.size := by
  rcases Nat.lt_or_ge a.block w.heap.size with h1 | h1
  ·exact h1
  ·simp [World.cell?, Array.getElem?_eq_none h1] at hv
 obtain ⟨_, _, _, _, h5⟩ := hb
 have := h5 a.block hlt
 unfold World.cell? at hv ⊢
 rw [this]
 exact hv
set_option maxHeartbeats 2000000 in
set_option maxRecDepth 100000 in
theorem fault_walk (ad : Addr) (c src line col : Int) (word : ByteArray) (A : Option Addr) (cc : Nat) (w : World) (h : ErrAt w ad c src line col word (.slice A 0 cc)) : Calls Tryd.prog 23 #[.pointer (some ad)] w fun e w' => e = .returned (.agg #[.int .i64 c, .int .i64 src, .int .i64 line, .int .i64 col, .string word, .slice A 0 cc]) ∧ Below w.heap.size w w' := by
 have t37 := Tryd.underlying37; have a37 := Tryd.isAgg37; have z37 := Tryd.sizeOf37; have v37 := Tryd.zeroValue37; have u37 := run_underlying Tryd.underlying37
 have t60 := Tryd.underlying60; have a60 := Tryd.isAgg60; have z60 := Tryd.sizeOf60; have v60 := Tryd.zeroValue60; have u60 := run_underlying Tryd.underlying60
 have t43 := Tryd.underlying43; have a43 := Tryd.isAgg43; have z43 := Tryd.sizeOf43; have v43 := Tryd.zeroValue43; have u43 := run_underlying Tryd.underlying43
 have t40 := Tryd.underlying40; have a40 := Tryd.isAgg40; have z40 := Tryd.sizeOf40; have v40 := Tryd.zeroValue40; have u40 := run_underlying Tryd.underlying40
 have t41 := Tryd.underlying41; have a41 := Tryd.isAgg41; have z41 := Tryd.sizeOf41; have v41 := Tryd.zeroValue41; have u41 := run_underlying Tryd.underlying41
 have t4 := Tryd.underlying4; have a4 := Tryd.isAgg4; have z4 := Tryd.sizeOf4; have v4 := Tryd.zeroValue4; have u4 := run_underlying Tryd.underlying4
 have t3 := Tryd.underlying3; have a3 := Tryd.isAgg3; have z3 := Tryd.sizeOf3; have v3 := Tryd.zeroValue3; have u3 := run_underlying Tryd.underlying3
 have t9 := Tryd.underlying9; have a9 := Tryd.isAgg9; have z9 := Tryd.sizeOf9; have v9 := Tryd.zeroValue9; have u9 := run_underlying Tryd.underlying9
 obtain ⟨h0, h1, h2, h3, h4, h5, h6⟩ := h
 go_enter Tryd.func23, Tryd.ntmps23
 go_wp2_with (go_at_call 44; refine (is_walk ad _ ?w1).mono ?_)
 case w1 => exact cell_below h0 ((Below.refl _ w).alloc (Nat.le_refl _) _)
 rintro e w1 ⟨rfl, rfl⟩
 have kk : ∀ (a : Addr) (v : Value), w.cell? a = some v → (w.alloc (.cells #[.int .i64 0, .int .i64 0, .int .i64 0, .int .i64 0, .string ⟨#[]⟩, .slice none 0 0] 43)).cell? a = some v := fun a v hv => cell_below hv ((Below.refl _ w).alloc (Nat.le_refl _) _)
 have k1 := kk ⟨ad.block, ad.off + 1, none⟩ _ h1
 have k2 := kk ⟨ad.block, ad.off + 1 + 1, none⟩ _ h2
 have k3 := kk ⟨ad.block, ad.off + 1 + 2, none⟩ _ h3
 have k4 := kk ⟨ad.block, ad.off + 1 + 3, none⟩ _ h4
 have k5 := kk ⟨ad.block, ad.off + 1 + 4, none⟩ _ h5
 have k6 := kk ⟨ad.block, ad.off + 1 + 5, none⟩ _ h6
 go_wp2
 (try simp only [Exit.inBlock, Exit.then])
 refine bodyPost_ret (v := .agg #[.int .i64 c, .int .i64 src, .int .i64 line, .int .i64 col, .string word, .slice A 0 cc]) ?_ rfl ⟨rfl, (Below.refl _ w).alloc (Nat.le_refl _) _⟩
 have hr : Tryd.f23.results = #[.cell 2 43] := by kernel_rfl
 simp only [results, hr]
 go_simp
def errText (c src line col : Int) (word : List UInt8) : List UInt8 := [102,97,117,108,116,32] ++ Lib.itoa c ++ (if src ≠ 0 ∨ line ≠ 0 ∨ col ≠ 0 then [32,97,116,32] ++ Lib.itoa src ++ [58] ++ Lib.itoa line ++ [58] ++ Lib.itoa col else []) ++ (if word ≠ [] then 32 :: word else [])
theorem below_down {k : Nat} {w w' : World} (hk : k ≤ w.heap.size) (hb : Below w.heap.size w w') : Below k w w' := by
 obtain ⟨h1, h2, h3, h4, h5⟩ := hb
 exact ⟨h1, h2, h3, h4, fun j hj => h5 j (Nat.lt_of_lt_of_le hj hk)⟩
theorem below_le {k m : Nat} {w w' : World} (hk : k ≤ m) (hb : Below m w w') : Below k w w' := by
 obtain ⟨h1, h2, h3, h4, h5⟩ := hb
 exact ⟨h1, h2, h3, h4, fun j hj => h5 j (Nat.lt_of_lt_of_le hj hk)⟩
theorem itoa_k (n : Int) (h : NumOk n) (w : World) (ht : PowT w) : Calls Tryd.prog 15 #[.int .i64 n] w fun e w' => e = .returned (.string ⟨(Lib.itoa n).toArray⟩) ∧ Below w.heap.size w w' := itoa_kk n h w ht
theorem bldAt_below {T e : TypeId} {B b : Nat} {p : Value} {bs : List Value} {W W' : World} (h : Lib.BuilderAtF T e B b p bs W) (hb : Below W.heap.size W W') : Lib.BuilderAtF T e B b p bs W' := by
 have hlt := h.lt
 obtain ⟨hB, v, hv, hown, hne⟩ := h
 exact ⟨hB, v, (hb.block b hlt).trans hv, hown.kept (row := none) ⟨hb.os, hb.tape, hb.output, hb.size, fun k hk _ => hb.block k hk⟩ (Classical.em _), hne⟩
theorem bld_below {T e : TypeId} {B b : Nat} {bs : List Value} {W W' : World} (h : Lib.IsBuilderF T e B b bs W) (hb : Below W.heap.size W W') : Lib.IsBuilderF T e B b bs W' :=
 h.elim (fun x => .inl (bldAt_below x hb)) (fun x => .inr (bldAt_below x hb))
theorem cell_under {k : Nat} {w w' : World} {a : Addr} {v : Value} (hv : w.cell? a = some v) (hk : a.block < k) (hb : Below k w w') : w'.cell? a = some v := by
 obtain ⟨_, _, _, _, h5⟩ := hb
 have := h5 a.block hk
 unfold World.cell? at hv ⊢
 rw [this]
 exact hv
theorem ba_app (a b : List UInt8) : (⟨a.toArray⟩ : ByteArray) ++ ⟨b.toArray⟩ = ⟨(a ++ b).toArray⟩ := by
 apply ByteArray.ext
 simp
structure Hold (H : Nat) (W0 : World) (L : List UInt8) (src line col : Int) (word : ByteArray) (W : World) : Prop where
 bld : Lib.IsBuilderF 109 5 (H + 1) (H + 1) (Lib.byteCells L) W
 pow0 : PowT W0
 os0 : W0.heap.size ≤ H + 1
 blo : Below (H + 1) W0 W
 lt : H < W.heap.size
 s : W.cell? ⟨H, 1, none⟩ = some (.int .i64 src)
 l : W.cell? ⟨H, 2, none⟩ = some (.int .i64 line)
 c : W.cell? ⟨H, 3, none⟩ = some (.int .i64 col)
 w : W.cell? ⟨H, 4, none⟩ = some (.string word)
theorem Hold.pow {H : Nat} {W0 : World} {L : List UInt8} {src line col : Int} {word : ByteArray} {W : World} (h : Hold H W0 L src line col word W) : PowT W := pow_below h.pow0 (below_le h.os0 h.blo)
theorem Hold.on {H : Nat} {W0 : World} {L : List UInt8} {src line col : Int} {word : ByteArray} {W W' : World} (h : Hold H W0 L src line col word W) (hb : Below W.heap.size W W') : Hold H W0 L src line col word W' :=
 ⟨bld_below h.bld hb, h.pow0, h.os0, h.blo.trans (below_down (by have := h.lt; omega) hb), Nat.lt_of_lt_of_le h.lt hb.size, cell_below h.s hb, cell_below h.l hb, cell_below h.c hb, cell_below h.w hb⟩
theorem Hold.itoa {H : Nat} {W0 : World} {L : List UInt8} {src line col : Int} {word : ByteArray} {n : Int} {W : World} (hn : NumOk n) (h : Hold H W0 L src line col word W) : Calls Tryd.prog 15 #[.int .i64 n] W fun e w' => e = .returned (.string ⟨(Lib.itoa n).toArray⟩) ∧ Hold H W0 L src line col word w' := by
 refine (itoa_k n hn W h.pow).mono ?_
 rintro e w' ⟨rfl, hb⟩
 exact ⟨rfl, h.on hb⟩
theorem Hold.write {H : Nat} {W0 : World} {L : List UInt8} {src line col : Int} {word : ByteArray} {W : World} (X : List UInt8) {s : ByteArray} (hX : s = ⟨X.toArray⟩) (hl : L.length + X.length ≤ 10000000000000) (h : Hold H W0 L src line col word W) : Calls Tryd.prog 49 #[.pointer (some ⟨H + 1, 0, none⟩), .string s] W fun e w' => e = .returned (.tuple #[.int .i64 s.size, .nilIface]) ∧ Hold H W0 (L ++ X) src line col word w' := by
 subst hX
 refine (ws_k (H + 1) (H + 1) _ _ _ h.bld ?l1 ?l2).mono ?_
 case l1 => rw [Lib.byteCells_length]; simp [ByteArray.size]; omega
 case l2 => have := h.lt; omega
 rintro e w3 ⟨rfl, hI3, b3, _⟩
 have hlt : H < H + 1 := Nat.lt_succ_self _
 refine ⟨rfl, Or.inr (by rw [Lib.byteCells_append]; exact hI3), h.pow0, h.os0, h.blo.trans b3, Nat.lt_of_lt_of_le h.lt b3.size, cell_under h.s hlt b3, cell_under h.l hlt b3, cell_under h.c hlt b3, cell_under h.w hlt b3⟩
def atText (src line col : Int) : List UInt8 := [32,97,116,32] ++ Lib.itoa src ++ [58] ++ Lib.itoa line ++ [58] ++ Lib.itoa col
theorem at_cat (src line col : Int) : ((⟨#[32, 97, 116, 32]⟩ : ByteArray) ++ ⟨(Lib.itoa src).toArray⟩ ++ ⟨#[58]⟩ ++ ⟨(Lib.itoa line).toArray⟩ ++ ⟨#[58]⟩ ++ ⟨(Lib.itoa col).toArray⟩) = ⟨(atText src line col).toArray⟩ := by
 apply ByteArray.ext
 simp [atText]
theorem errText_at {src line col : Int} (hat : ¬(src = 0 ∧ line = 0 ∧ col = 0)) (c : Int) (l : List UInt8) : errText c src line col l = ([102, 97, 117, 108, 116, 32] ++ Lib.itoa c) ++ atText src line col ++ (if l ≠ [] then 32 :: l else []) := by
 have h1 : src ≠ 0 ∨ line ≠ 0 ∨ col ≠ 0 := by omega
 rw [errText, if_pos h1]
 simp only [atText, List.append_assoc]
set_option maxHeartbeats 8000000 in
set_option maxRecDepth 1000000 in
theorem errtext_gen (p : Option Addr) (c src line col : Int) (word : ByteArray) (A : Option Addr) (cc : Nat) (hc : NumOk c) (hs : NumOk src) (hl : NumOk line) (ho : NumOk col) (hw : word.size ≤ 1099511627776) (w : World) (ht : PowT w) (h : Calls Tryd.prog 23 #[.pointer p] w fun e w' => e = .returned (.agg #[.int .i64 c, .int .i64 src, .int .i64 line, .int .i64 col, .string word, .slice A 0 cc]) ∧ Below w.heap.size w w') :
  Calls Tryd.prog 34 #[.pointer p] w fun e w' => e = .returned (.string ⟨(errText c src line col word.data.toList).toArray⟩) ∧ Below w.heap.size w w' := by
 have t37 := Tryd.underlying37; have a37 := Tryd.isAgg37; have z37 := Tryd.sizeOf37; have v37 := Tryd.zeroValue37; have u37 := run_underlying Tryd.underlying37
 have t43 := Tryd.underlying43; have a43 := Tryd.isAgg43; have z43 := Tryd.sizeOf43; have v43 := Tryd.zeroValue43; have u43 := run_underlying Tryd.underlying43
 have t40 := Tryd.underlying40; have a40 := Tryd.isAgg40; have z40 := Tryd.sizeOf40; have v40 := Tryd.zeroValue40; have u40 := run_underlying Tryd.underlying40
 have t41 := Tryd.underlying41; have a41 := Tryd.isAgg41; have z41 := Tryd.sizeOf41; have v41 := Tryd.zeroValue41; have u41 := run_underlying Tryd.underlying41
 have t3 := Tryd.underlying3; have a3 := Tryd.isAgg3; have z3 := Tryd.sizeOf3; have v3 := Tryd.zeroValue3; have u3 := run_underlying Tryd.underlying3
 have t9 := Tryd.underlying9; have a9 := Tryd.isAgg9; have z9 := Tryd.sizeOf9; have v9 := Tryd.zeroValue9; have u9 := run_underlying Tryd.underlying9
 have t4 := Tryd.underlying4; have a4 := Tryd.isAgg4; have z4 := Tryd.sizeOf4; have v4 := Tryd.zeroValue4; have u4 := run_underlying Tryd.underlying4
 have t109 := Tryd.underlying109; have a109 := Tryd.isAgg109; have z109 := Tryd.sizeOf109; have v109 := Tryd.zeroValue109; have u109 := run_underlying Tryd.underlying109
 have t110 := Tryd.underlying110; have a110 := Tryd.isAgg110; have z110 := Tryd.sizeOf110; have v110 := Tryd.zeroValue110; have u110 := run_underlying Tryd.underlying110
 go_enter Tryd.func34, Tryd.ntmps34
 go_wp2_with (go_at_call 23; refine h.mono ?_)
 rintro e w1 ⟨rfl, b1⟩
 generalize hX : (Obj.cells #[Value.int IntKind.i64 c, Value.int IntKind.i64 src, Value.int IntKind.i64 line, Value.int IntKind.i64 col, Value.string word, Value.slice A 0 cc] 43) = X
 have kX : ∀ j v, #[Value.int IntKind.i64 c, Value.int IntKind.i64 src, Value.int IntKind.i64 line, Value.int IntKind.i64 col, Value.string word, Value.slice A 0 cc][j]? = some v → (w1.alloc X).cell? ⟨w1.heap.size, j, none⟩ = some v := fun j v hv => by
  subst hX
  have h1 : (w1.alloc (Obj.cells #[Value.int IntKind.i64 c, Value.int IntKind.i64 src, Value.int IntKind.i64 line, Value.int IntKind.i64 col, Value.string word, Value.slice A 0 cc] 43)).heap[w1.heap.size]? = some (Obj.cells #[Value.int IntKind.i64 c, Value.int IntKind.i64 src, Value.int IntKind.i64 line, Value.int IntKind.i64 col, Value.string word, Value.slice A 0 cc] 43) := heap_alloc_new w1 _
  unfold World.cell?
  rw [h1]
  exact hv
 have hI0 : Lib.IsBuilderF 109 5 (w1.heap.size + 1) (w1.heap.size + 1) (Lib.byteCells []) ((w1.alloc X).alloc (.cells #[.pointer none, .slice none 0 0] 109)) := by
  have := Lib.IsBuilderF.of (Lib.fresh_isBuilder 109 5 (w1.alloc X))
  rw [show (w1.alloc X).heap.size = w1.heap.size + 1 by simp] at this
  exact this
 have bb0 : Below (w1.heap.size + 1) (w1.alloc X) ((w1.alloc X).alloc (.cells #[.pointer none, .slice none 0 0] 109)) := (Below.refl _ _).alloc (by simp) _
 have p0 : PowT ((w1.alloc X).alloc (.cells #[.pointer none, .slice none 0 0] 109)) := pow_below (pow_below (pow_below ht b1) ((Below.refl _ w1).alloc (Nat.le_refl _) X)) ((Below.refl _ (w1.alloc X)).alloc (Nat.le_refl _) _)
 subst hX
 go_wp2_with (go_at_call 15; refine (itoa_k c hc _ p0).mono ?_)
 rintro e w2 ⟨rfl, b2⟩
 have hic := Lib.itoa_length_le c (numOk_i64 hc).1 (numOk_i64 hc).2
 have his := Lib.itoa_length_le src (numOk_i64 hs).1 (numOk_i64 hs).2
 have hil := Lib.itoa_length_le line (numOk_i64 hl).1 (numOk_i64 hl).2
 have hio := Lib.itoa_length_le col (numOk_i64 ho).1 (numOk_i64 ho).2
 have g1 : (ByteArray.mk #[102, 97, 117, 108, 116, 32] ++ ByteArray.mk (Lib.itoa c).toArray).size = 6 + (Lib.itoa c).length := by simp [ByteArray.size]; omega
 have hI2 := bld_below hI0 b2
 have p2 := pow_below p0 b2
 have bb2 := bb0.trans (below_down (by simp) b2)
 go_wp2_with (go_at_call 49; refine (ws_k (w1.heap.size + 1) (w1.heap.size + 1) _ _ _ hI2 ?l1 ?l2).mono ?_)
 case l1 => rw [g1]; show 0 + _ ≤ _; omega
 case l2 => have := b2.size; simp at this; omega
 rintro e w3 ⟨rfl, hI3, b3, _⟩
 have bb3 := bb2.trans b3
 have p3 : PowT w3 := pow_below (pow_below (pow_below ht b1) ((Below.refl _ w1).alloc (Nat.le_refl _) _)) (below_le (by simp) bb3)
 have q0 := cell_under (kX 0 _ rfl) (Nat.lt_succ_self _) bb3
 have q1 := cell_under (kX 1 _ rfl) (Nat.lt_succ_self _) bb3
 have q2 := cell_under (kX 2 _ rfl) (Nat.lt_succ_self _) bb3
 have q3 := cell_under (kX 3 _ rfl) (Nat.lt_succ_self _) bb3
 have q4 := cell_under (kX 4 _ rfl) (Nat.lt_succ_self _) bb3
 have hI3' : Lib.IsBuilderF 109 5 (w1.heap.size + 1) (w1.heap.size + 1) (Lib.byteCells ([102, 97, 117, 108, 116, 32] ++ Lib.itoa c)) w3 := by
  have e1 : (ByteArray.mk #[102, 97, 117, 108, 116, 32] ++ ByteArray.mk (Lib.itoa c).toArray) = ⟨([102, 97, 117, 108, 116, 32] ++ Lib.itoa c).toArray⟩ := ba_app [102, 97, 117, 108, 116, 32] (Lib.itoa c)
  rw [e1] at hI3
  exact Or.inr hI3
 have fin : ∀ (L : List UInt8) (W : World), Lib.IsBuilderF 109 5 (w1.heap.size + 1) (w1.heap.size + 1) (Lib.byteCells L) W → Below (w1.heap.size + 1) (w1.alloc (Obj.cells #[Value.int IntKind.i64 c, Value.int IntKind.i64 src, Value.int IntKind.i64 line, Value.int IntKind.i64 col, Value.string word, Value.slice A 0 cc] 43)) W → Calls Tryd.prog 50 #[.pointer (some ⟨w1.heap.size + 1, 0, none⟩)] W fun e w' => e = .returned (.string ⟨L.toArray⟩) ∧ Below w.heap.size w w' := fun L W hW hB => by
  refine (Tryd.Builder_String_any_k (w1.heap.size + 1) (w1.heap.size + 1) L W hW (by have := hB.size; simpa using this)).mono ?_
  rintro e w4 ⟨rfl, _, b4, _⟩
  have h1 := hB.trans b4
  exact ⟨rfl, b1.trans (below_down b1.size (((Below.refl _ w1).alloc (Nat.le_refl _) _).trans (below_le (by omega) h1)))⟩
 by_cases hat : src = 0 ∧ line = 0 ∧ col = 0
 ·obtain ⟨rfl, rfl, rfl⟩ := hat
  obtain ⟨wl, rfl⟩ : ∃ wl : List UInt8, word = ⟨wl.toArray⟩ := ⟨word.data.toList, by cases word; rfl⟩
  cases wl with
  | nil =>
   go_wp2_with (go_at_call 50; refine (fin _ _ hI3' bb3).mono ?_)
   rintro e w4 ⟨rfl, b4⟩
   go_wp2
   go_ret
   refine ⟨?_, b4⟩
   simp [errText]
  | cons y wl =>
   have hne : (⟨(y :: wl).toArray⟩ : ByteArray).toList.isEmpty = false := by rw [ByteArray.toList_eq]; rfl
   have hws : (⟨(y :: wl).toArray⟩ : ByteArray).size = wl.length + 1 := by simp [ByteArray.size]
   rw [hws] at hw
   have e2 : (⟨#[32]⟩ : ByteArray) ++ ⟨(y :: wl).toArray⟩ = ⟨(32 :: y :: wl).toArray⟩ := ba_app [32] (y :: wl)
   go_wp2_with (go_at_call 49; refine (ws_k (w1.heap.size + 1) (w1.heap.size + 1) _ _ _ hI3' ?m1 ?m2).mono ?_)
   case m1 => rw [Lib.byteCells_length]; simp [ByteArray.size]; omega
   case m2 => have := bb3.size; simpa using this
   rintro e w4 ⟨rfl, hI4, b4, _⟩
   have hI4' : Lib.IsBuilderF 109 5 (w1.heap.size + 1) (w1.heap.size + 1) (Lib.byteCells (([102, 97, 117, 108, 116, 32] ++ Lib.itoa c) ++ (32 :: y :: wl))) w4 := by
    exact Or.inr (by rw [Lib.byteCells_append]; exact hI4)
   go_wp2_with (go_at_call 50; refine (fin _ _ hI4' (bb3.trans b4)).mono ?_)
   rintro e w5 ⟨rfl, b5⟩
   go_wp2
   go_ret
   refine ⟨?_, b5⟩
   simp [errText]
 ·obtain ⟨wl, rfl⟩ : ∃ wl : List UInt8, word = ⟨wl.toArray⟩ := ⟨word.data.toList, by cases word; rfl⟩
  have W0s : (w1.alloc (Obj.cells #[Value.int IntKind.i64 c, Value.int IntKind.i64 src, Value.int IntKind.i64 line, Value.int IntKind.i64 col, Value.string ⟨wl.toArray⟩, Value.slice A 0 cc] 43)).heap.size = w1.heap.size + 1 := by simp
  have hH : Hold w1.heap.size (w1.alloc (Obj.cells #[Value.int IntKind.i64 c, Value.int IntKind.i64 src, Value.int IntKind.i64 line, Value.int IntKind.i64 col, Value.string ⟨wl.toArray⟩, Value.slice A 0 cc] 43)) ([102, 97, 117, 108, 116, 32] ++ Lib.itoa c) src line col ⟨wl.toArray⟩ w3 :=
   ⟨hI3', pow_below (pow_below ht b1) ((Below.refl _ w1).alloc (Nat.le_refl _) _), Nat.le_of_eq W0s, bb3, by have := bb3.size; omega, q1, q2, q3, q4⟩
  generalize (w1.alloc (Obj.cells #[Value.int IntKind.i64 c, Value.int IntKind.i64 src, Value.int IntKind.i64 line, Value.int IntKind.i64 col, Value.string ⟨wl.toArray⟩, Value.slice A 0 cc] 43)) = W0 at *
  have fin' : ∀ L W, Hold w1.heap.size W0 L src line col ⟨wl.toArray⟩ W → Calls Tryd.prog 50 #[.pointer (some ⟨w1.heap.size + 1, 0, none⟩)] W fun e w' => e = .returned (.string ⟨L.toArray⟩) ∧ Below w.heap.size w w' := fun L W hW => fin L W hW.bld hW.blo
  clear fin bb3 bb2 bb0 hI3 hI3' p3 b3 b2 hI2 p2 p0 hI0 g1 b1 h
  have hd := hH.on ((Below.refl _ w3).drew)
  have hT0 : errText c src line col (⟨([] : List UInt8).toArray⟩ : ByteArray).data.toList = ([102, 97, 117, 108, 116, 32] ++ Lib.itoa c) ++ atText src line col := (errText_at hat c []).trans (by simp)
  have hT1 : ∀ y (l : List UInt8), errText c src line col (⟨(y :: l).toArray⟩ : ByteArray).data.toList = (([102, 97, 117, 108, 116, 32] ++ Lib.itoa c) ++ atText src line col) ++ (32 :: y :: l) := fun y l => (errText_at hat c (y :: l)).trans (by rw [if_pos (by simp)])
  have hlen2 : ∀ (l : List UInt8), l.length ≤ 1099511627776 → (([102, 97, 117, 108, 116, 32] ++ Lib.itoa c) ++ atText src line col).length + (32 :: l).length ≤ 10000000000000 := fun l h => by
   simp only [atText, List.length_append, List.length_cons, List.length_nil]
   omega
  have hcat := at_cat src line col
  have hlen : ([102, 97, 117, 108, 116, 32] ++ Lib.itoa c).length + (atText src line col).length ≤ 10000000000000 := by
   simp only [atText, List.length_append, List.length_cons, List.length_nil]
   omega
  have kall : ∀ {L : List UInt8} (W : World), Hold w1.heap.size W0 L src line col ⟨wl.toArray⟩ W → (W.cell? ⟨w1.heap.size, 1, none⟩ = some (.int .i64 src) ∧ W.cell? ⟨w1.heap.size, 2, none⟩ = some (.int .i64 line) ∧ W.cell? ⟨w1.heap.size, 3, none⟩ = some (.int .i64 col)) := fun W h => ⟨h.s, h.l, h.c⟩
  clear q0 q1 q2 q3 q4
  have q1 := hH.s
  have q2 := hH.l
  have q3 := hH.c
  have q4 := hH.w
  have f1 : (9223372036854775807 < 4 + (Lib.itoa src).length) = False := by rw [eq_iff_iff, iff_false]; omega
  have f2 : (9223372036854775807 < 4 + (Lib.itoa src).length + 1) = False := by rw [eq_iff_iff, iff_false]; omega
  have f3 : (9223372036854775807 < 4 + (Lib.itoa src).length + 1 + (Lib.itoa line).length) = False := by rw [eq_iff_iff, iff_false]; omega
  have f4 : (9223372036854775807 < 4 + (Lib.itoa src).length + 1 + (Lib.itoa line).length + 1) = False := by rw [eq_iff_iff, iff_false]; omega
  have f5 : (9223372036854775807 < 4 + (Lib.itoa src).length + 1 + (Lib.itoa line).length + 1 + (Lib.itoa col).length) = False := by rw [eq_iff_iff, iff_false]; omega
  by_cases hs0 : src = 0
  ·have hb1 : (src != 0) = false := by simp [hs0]
   by_cases hl0 : line = 0
   ·have hc0 : ¬col = 0 := fun h => hat ⟨hs0, hl0, h⟩
    have hb2 : (line != 0) = false := by simp [hl0]
    clear hs0 hl0
    go_wp2_with fail
    go_region_held3 (fun W => W.cell? ⟨w1.heap.size, 1, none⟩ = some (.int .i64 src) ∧ W.cell? ⟨w1.heap.size, 2, none⟩ = some (.int .i64 line) ∧ W.cell? ⟨w1.heap.size, 3, none⟩ = some (.int .i64 col)) (first | exact ⟨hH.s, hH.l, hH.c⟩ | (exact (kall _ (by assumption))) | (exact ⟨(hH.on ((Below.refl _ w3).drew)).s, (hH.on ((Below.refl _ w3).drew)).l, (hH.on ((Below.refl _ w3).drew)).c⟩))
     (first
      | (go_at_call_of 15 src; refine (Hold.itoa hs (hd : Hold w1.heap.size W0 _ src line col ⟨wl.toArray⟩ _)).mono ?_; rintro e w4 ⟨rfl, h4⟩)
      | (go_at_call_of 15 line; refine (Hold.itoa hl ‹Hold w1.heap.size W0 _ src line col ⟨wl.toArray⟩ _›).mono ?_; rintro e w5 ⟨rfl, h5⟩)
      | (go_at_call_of 15 col; refine (Hold.itoa ho ‹Hold w1.heap.size W0 _ src line col ⟨wl.toArray⟩ _›).mono ?_; rintro e w6 ⟨rfl, h6⟩)
      | (go_at_call 49; refine (Hold.write (atText src line col) hcat hlen h6).mono ?_; rintro e w7 ⟨rfl, h7⟩))
    all_goals
     have k7 := h7.w
     cases wl with
     | nil =>
      go_wp2_with (go_at_call 50; refine (fin' _ _ h7).mono ?_)
      rintro e w8 ⟨rfl, b8⟩
      go_wp2
      go_ret
      refine ⟨?_, b8⟩
      simp [atText]
     | cons y wl =>
      have hne : (⟨(y :: wl).toArray⟩ : ByteArray).toList.isEmpty = false := by rw [ByteArray.toList_eq]; rfl
      have hws : (⟨(y :: wl).toArray⟩ : ByteArray).size = wl.length + 1 := by simp [ByteArray.size]
      rw [hws] at hw
      go_wp2_with (go_at_call 49; refine (Hold.write (32 :: y :: wl) (ba_app [32] (y :: wl)) (hlen2 (y :: wl) hw) h7).mono ?_)
      rintro e w8 ⟨rfl, h8⟩
      go_wp2_with (go_at_call 50; refine (fin' _ _ h8).mono ?_)
      rintro e w9 ⟨rfl, b9⟩
      go_wp2
      go_ret
      refine ⟨?_, b9⟩
      simp [atText]
   ·clear hs0
    go_wp2_with fail
    go_region_held3 (fun W => W.cell? ⟨w1.heap.size, 1, none⟩ = some (.int .i64 src) ∧ W.cell? ⟨w1.heap.size, 2, none⟩ = some (.int .i64 line) ∧ W.cell? ⟨w1.heap.size, 3, none⟩ = some (.int .i64 col)) (first | exact ⟨hH.s, hH.l, hH.c⟩ | (exact (kall _ (by assumption))) | (exact ⟨(hH.on ((Below.refl _ w3).drew)).s, (hH.on ((Below.refl _ w3).drew)).l, (hH.on ((Below.refl _ w3).drew)).c⟩))
     (first
      | (go_at_call_of 15 src; refine (Hold.itoa hs (hd : Hold w1.heap.size W0 _ src line col ⟨wl.toArray⟩ _)).mono ?_; rintro e w4 ⟨rfl, h4⟩)
      | (go_at_call_of 15 line; refine (Hold.itoa hl ‹Hold w1.heap.size W0 _ src line col ⟨wl.toArray⟩ _›).mono ?_; rintro e w5 ⟨rfl, h5⟩)
      | (go_at_call_of 15 col; refine (Hold.itoa ho ‹Hold w1.heap.size W0 _ src line col ⟨wl.toArray⟩ _›).mono ?_; rintro e w6 ⟨rfl, h6⟩)
      | (go_at_call 49; refine (Hold.write (atText src line col) hcat hlen h6).mono ?_; rintro e w7 ⟨rfl, h7⟩))
    all_goals
     have k7 := h7.w
     cases wl with
     | nil =>
      go_wp2_with (go_at_call 50; refine (fin' _ _ h7).mono ?_)
      rintro e w8 ⟨rfl, b8⟩
      go_wp2
      go_ret
      refine ⟨?_, b8⟩
      simp [atText]
     | cons y wl =>
      have hne : (⟨(y :: wl).toArray⟩ : ByteArray).toList.isEmpty = false := by rw [ByteArray.toList_eq]; rfl
      have hws : (⟨(y :: wl).toArray⟩ : ByteArray).size = wl.length + 1 := by simp [ByteArray.size]
      rw [hws] at hw
      go_wp2_with (go_at_call 49; refine (Hold.write (32 :: y :: wl) (ba_app [32] (y :: wl)) (hlen2 (y :: wl) hw) h7).mono ?_)
      rintro e w8 ⟨rfl, h8⟩
      go_wp2_with (go_at_call 50; refine (fin' _ _ h8).mono ?_)
      rintro e w9 ⟨rfl, b9⟩
      go_wp2
      go_ret
      refine ⟨?_, b9⟩
      simp [atText]
  ·go_wp2_with fail
   go_region_held3 (fun W => W.cell? ⟨w1.heap.size, 1, none⟩ = some (.int .i64 src) ∧ W.cell? ⟨w1.heap.size, 2, none⟩ = some (.int .i64 line) ∧ W.cell? ⟨w1.heap.size, 3, none⟩ = some (.int .i64 col)) (first | exact ⟨hH.s, hH.l, hH.c⟩ | (exact (kall _ (by assumption))) | (exact ⟨(hH.on ((Below.refl _ w3).drew)).s, (hH.on ((Below.refl _ w3).drew)).l, (hH.on ((Below.refl _ w3).drew)).c⟩))
    (first
     | (go_at_call_of 15 src; refine (Hold.itoa hs (hd : Hold w1.heap.size W0 _ src line col ⟨wl.toArray⟩ _)).mono ?_; rintro e w4 ⟨rfl, h4⟩)
     | (go_at_call_of 15 line; refine (Hold.itoa hl ‹Hold w1.heap.size W0 _ src line col ⟨wl.toArray⟩ _›).mono ?_; rintro e w5 ⟨rfl, h5⟩)
     | (go_at_call_of 15 col; refine (Hold.itoa ho ‹Hold w1.heap.size W0 _ src line col ⟨wl.toArray⟩ _›).mono ?_; rintro e w6 ⟨rfl, h6⟩)
     | (go_at_call 49; refine (Hold.write (atText src line col) hcat hlen h6).mono ?_; rintro e w7 ⟨rfl, h7⟩))
   all_goals
    have k7 := h7.w
    cases wl with
    | nil =>
     go_wp2_with (go_at_call 50; refine (fin' _ _ h7).mono ?_)
     rintro e w8 ⟨rfl, b8⟩
     go_wp2
     go_ret
     refine ⟨?_, b8⟩
     simp [atText]
    | cons y wl =>
     have hne : (⟨(y :: wl).toArray⟩ : ByteArray).toList.isEmpty = false := by rw [ByteArray.toList_eq]; rfl
     have hws : (⟨(y :: wl).toArray⟩ : ByteArray).size = wl.length + 1 := by simp [ByteArray.size]
     rw [hws] at hw
     go_wp2_with (go_at_call 49; refine (Hold.write (32 :: y :: wl) (ba_app [32] (y :: wl)) (hlen2 (y :: wl) hw) h7).mono ?_)
     rintro e w8 ⟨rfl, h8⟩
     go_wp2_with (go_at_call 50; refine (fin' _ _ h8).mono ?_)
     rintro e w9 ⟨rfl, b9⟩
     go_wp2
     go_ret
     refine ⟨?_, b9⟩
     simp [atText]
theorem errtext_walk (ad : Addr) (c src line col : Int) (word : ByteArray) (A : Option Addr) (cc : Nat) (hc : NumOk c) (hs : NumOk src) (hl : NumOk line) (ho : NumOk col) (hw : word.size ≤ 1099511627776) (w : World) (ht : PowT w) (h : ErrAt w ad c src line col word (.slice A 0 cc)) :
  Calls Tryd.prog 34 #[.pointer (some ad)] w fun e w' => e = .returned (.string ⟨(errText c src line col word.data.toList).toArray⟩) ∧ Below w.heap.size w w' :=
 errtext_gen (some ad) c src line col word A cc hc hs hl ho hw w ht (fault_walk ad c src line col word A cc w h)
end Go.Fn
/- strings.Join, walked. -/
namespace Go.Fn
open Go Go.Proofs Go.Shelf Go.RowKit
def joinT (sep : List UInt8) : List (List UInt8) → List UInt8
 | [] => []
 | x :: r => sep ++ x ++ joinT sep r
def joinL (sep : List UInt8) : List (List UInt8) → List UInt8
 | [] => []
 | x :: r => x ++ joinT sep r
def lensT : List (List UInt8) → Nat
 | [] => 0
 | x :: r => x.length + lensT r
theorem joinT_length (sep : List UInt8) : ∀ r, (joinT sep r).length = sep.length * r.length + lensT r
 | [] => by simp [joinT, lensT]
 | x :: r => by
  have := joinT_length sep r
  simp only [joinT, lensT, List.length_append, List.length_cons, this, Nat.mul_add]
  omega
theorem lensT_take (xs : List (List UInt8)) : ∀ (k : Nat) (x : List UInt8), xs[k]? = some x → lensT (xs.take (k + 1)) = lensT (xs.take k) + x.length := by
 induction xs with
 | nil => intro k x h; simp at h
 | cons y r ih =>
  intro k x h
  cases k with
  | zero => simp at h; subst h; simp [lensT]
  | succ k =>
   have := ih k x (by simpa using h)
   simp only [List.take_succ_cons, lensT, this]
   omega
theorem lensT_le (xs : List (List UInt8)) : ∀ k, lensT (xs.take k) ≤ lensT xs := by
 induction xs with
 | nil => intro k; simp
 | cons y r ih =>
  intro k
  cases k with
  | zero => simp [lensT]
  | succ k => have := ih k; simp only [List.take_succ_cons, lensT]; omega
theorem joinT_take (sep : List UInt8) (xs : List (List UInt8)) : ∀ (k : Nat) (x : List UInt8), xs[k]? = some x → joinT sep (xs.take (k + 1)) = joinT sep (xs.take k) ++ sep ++ x := by
 induction xs with
 | nil => intro k x h; simp at h
 | cons y r ih =>
  intro k x h
  cases k with
  | zero => simp at h; subst h; simp [joinT]
  | succ k =>
   have := ih k x (by simpa using h)
   simp only [List.take_succ_cons, joinT, this, List.append_assoc]
theorem joinT_le (sep : List UInt8) (xs : List (List UInt8)) : ∀ k, (joinT sep (xs.take k)).length ≤ (joinT sep xs).length := by
 induction xs with
 | nil => intro k; simp
 | cons y r ih =>
  intro k
  cases k with
  | zero => simp [joinT]
  | succ k => have := ih k; simp only [List.take_succ_cons, joinT, List.length_append]; omega
theorem hidL {p : Prop} (h : p) : Hid p := h
theorem add_block (a : Addr) (n : Nat) : (a.add n).block = a.block := by unfold Addr.add; split <;> rfl
theorem add_succ' (a : Addr) (n : Nat) : a.add (n + 1) = ⟨a.block, a.off + 1 + n, none⟩ := by
 unfold Addr.add
 rw [if_neg (Nat.succ_ne_zero n), Nat.add_comm n 1, ← Nat.add_assoc]
set_option maxHeartbeats 8000000 in
set_option maxRecDepth 1000000 in
theorem join_walk (ad : Addr) (c : Nat) (x0 : List UInt8) (r : List (List UInt8)) (sep : List UInt8) (w : World) (hc : ∀ j x, (x0 :: r)[j]? = some x → w.cell? (ad.add j) = some (.string ⟨x.toArray⟩)) (hb : ad.block < w.heap.size) (h2 : 1 ≤ r.length) (hle : r.length + 1 ≤ c) (hN : r.length ≤ 1099511627776) (hlen : (joinL sep (x0 :: r)).length ≤ 1099511627776) :
  Calls Tryd.prog 96 #[.slice (some ad) (r.length + 1 : Nat) c, .string ⟨sep.toArray⟩] w fun e w' => e = .returned (.string ⟨(joinL sep (x0 :: r)).toArray⟩) ∧ Below w.heap.size w w' := by
 have hJ : (joinL sep (x0 :: r)).length = sep.length * r.length + lensT (x0 :: r) := by
  simp only [joinL, List.length_append, joinT_length, lensT]; omega
 generalize hM : sep.length * r.length = M at hJ
 have hdv : (9223372036854775807 / (r.length : Int) ≤ (sep.length : Int)) = False := by
  rw [eq_iff_iff, iff_false]
  have h1 : sep.length + 1 ≤ 9223372036854775807 / r.length := by
   rw [Nat.le_div_iff_mul_le (by omega), Nat.add_mul, hM]
   omega
  have e : (9223372036854775807 : Int) / (r.length : Int) = ((9223372036854775807 / r.length : Nat) : Int) := by norm_cast
  rw [e]
  generalize 9223372036854775807 / r.length = q at h1
  omega
 have hprod : wrap64 ((sep.length : Int) * (r.length : Int)) = (M : Int) := by
  have e : (sep.length : Int) * (r.length : Int) = ((sep.length * r.length : Nat) : Int) := by norm_cast
  rw [e, hM]
  exact IntWalk.wrap64_in _ ⟨by omega, by omega⟩
 have hMI : (sep.length : Int) * (r.length : Int) = (M : Int) := by rw [← hM]; norm_cast
 have hM0 : sep.length = 0 → M = 0 := fun h => by rw [← hM, h, Nat.zero_mul]
 have hM' : ∀ n, sep.length * r.length + n = M + n := fun n => by rw [hM]
 have HC := hidL hc
 clear hprod hM hc
 have t109 := Tryd.underlying109; have a109 := Tryd.isAgg109; have z109 := Tryd.sizeOf109; have v109 := Tryd.zeroValue109; have u109 := run_underlying Tryd.underlying109
 have t110 := Tryd.underlying110; have a110 := Tryd.isAgg110; have z110 := Tryd.sizeOf110; have v110 := Tryd.zeroValue110; have u110 := run_underlying Tryd.underlying110
 have t163 := Tryd.underlying163; have a163 := Tryd.isAgg163; have z163 := Tryd.sizeOf163; have v163 := Tryd.zeroValue163; have u163 := run_underlying Tryd.underlying163
 have t3 := Tryd.underlying3; have a3 := Tryd.isAgg3; have z3 := Tryd.sizeOf3; have v3 := Tryd.zeroValue3; have u3 := run_underlying Tryd.underlying3
 have t9 := Tryd.underlying9; have a9 := Tryd.isAgg9; have z9 := Tryd.sizeOf9; have v9 := Tryd.zeroValue9; have u9 := run_underlying Tryd.underlying9
 have t4 := Tryd.underlying4; have a4 := Tryd.isAgg4; have z4 := Tryd.sizeOf4; have v4 := Tryd.zeroValue4; have u4 := run_underlying Tryd.underlying4
 have t20 := Tryd.underlying20; have a20 := Tryd.isAgg20; have z20 := Tryd.sizeOf20; have v20 := Tryd.zeroValue20; have u20 := run_underlying Tryd.underlying20
 go_enter Tryd.func96, Tryd.ntmps96
 go_wp2_with fail
 all_goals (
  have hst : (M : Int) = (M : Int) := rfl
  go_loop [5, 41] (fun n i => ∃ k : Nat, k ≤ r.length + 1 ∧ i = .int .i64 k ∧ n = .int .i64 ((M + lensT ((x0 :: r).take k) : Nat) : Int)) (fun _ i => r.length + 1 - (intOf i).toNat)
  case atStart => exact ⟨0, Nat.zero_le _, rfl, by first | (simp [lensT]; done) | (have := hM0 (by omega); simp [lensT, this])⟩
  case round =>
   obtain ⟨k, hk, rfl, rfl⟩ := hrel
   by_cases hkn : k < r.length + 1
   ·have hex : ∃ x, (x0 :: r)[k]? = some x := ⟨(x0 :: r)[k]'(by simpa using hkn), List.getElem?_eq_getElem (by simpa using hkn)⟩
    obtain ⟨x, hx⟩ := hex
    have hcx := HC.out k x hx
    have hs1 := lensT_take (x0 :: r) k x hx
    clear hx
    have hs2 := lensT_le (x0 :: r) (k + 1)
    generalize hA1 : lensT ((x0 :: r).take (k + 1)) = A1 at hs1 hs2
    have HA1 := hidL hA1
    clear hA1
    generalize lensT ((x0 :: r).take k) = A0 at hs1
    go_wp2
    exact ⟨⟨k + 1, by omega, by go_num, by rw [HA1.out]; refine congrArg _ ?_; omega⟩, by simp [intOf]; omega⟩
   ·have hke : k = r.length + 1 := by omega
    subst hke
    have hall : (x0 :: r).take (r.length + 1) = x0 :: r := List.take_of_length_le (by simp)
    rw [hall]
    clear hall
    generalize hT : lensT (x0 :: r) = T at hJ
    go_wp2_with fail
    rw [show ((M : Int) + (T : Int)) = ((M + T : Nat) : Int) by omega]
    refine (Tryd.Builder_Grow_fresh w.heap.size w.heap.size (M + T) _ (Nat.le_refl _) (heap_alloc_new w _) (by simp) (by omega)).mono ?_
    rintro e w1 ⟨rfl, h1, hb1⟩
    have B1 : Below w.heap.size w w1 := ((Below.refl w.heap.size w).alloc (Nat.le_refl _) _).trans hb1
    have I1 : Lib.IsBuilderF 109 5 w.heap.size w.heap.size (Lib.byteCells []) w1 := Lib.IsBuilderF.of (Or.inr h1)
    have c0 : w1.cell? ad = some (.string ⟨x0.toArray⟩) := cell_under (HC.out 0 x0 rfl) hb B1
    have s1 := B1.size
    clear h1 hb1
    have hTl : lensT (x0 :: r) = x0.length + lensT r := rfl
    have hlr : (joinT sep r).length = M + lensT r := by rw [joinT_length, hM']
    have HT := hidL (hT.symm.trans hTl)
    have Hlr := hidL hlr
    clear hTl hlr hT
    go_wp2_with (go_at_call 49; refine (ws_k w.heap.size w.heap.size _ _ _ I1 ?l1 s1).mono ?_)
    case l1 => have := HT.out; simp [Lib.byteCells, ByteArray.size]; omega
    rintro e w2 ⟨rfl, h2', b2, _⟩
    have e2 : Lib.byteCells [] ++ Lib.strCells ⟨x0.toArray⟩ = Lib.byteCells (x0 ++ joinT sep (r.take 0)) := by simp [joinT, Lib.strCells_eq, Lib.byteCells]
    rw [e2] at h2'
    have H2 := hidL (Or.inr h2' : Lib.IsBuilderF 109 5 w.heap.size w.heap.size (Lib.byteCells (x0 ++ joinT sep (r.take 0))) w2)
    have B2 := hidL (B1.trans b2)
    clear h2' e2 b2 I1 c0 B1 s1
    go_wp2_with fail
    go_loopw [65] (fun i wr => ∃ k : Nat, k ≤ r.length ∧ i = .int .i64 k ∧ Hid (Lib.IsBuilderF 109 5 w.heap.size w.heap.size (Lib.byteCells (x0 ++ joinT sep (r.take k))) wr) ∧ Hid (Below w.heap.size w wr)) (fun i _ => r.length - (intOf i).toNat)
    case atStart => exact ⟨0, Nat.zero_le _, rfl, H2, B2⟩
    case round =>
     obtain ⟨k, hk', rfl, HB, HW⟩ := hrel
     have sr := HW.out.size
     by_cases hkr : k < r.length
     ·have hex : ∃ y, r[k]? = some y := ⟨r[k], List.getElem?_eq_getElem hkr⟩
      obtain ⟨y, hy⟩ := hex
      have cy : wr.cell? ⟨ad.block, ad.off + 1 + k, none⟩ = some (.string ⟨y.toArray⟩) := by
       have := cell_under (HC.out (k + 1) y (by simpa using hy)) (by rw [add_block]; exact hb) HW.out
       rwa [add_succ'] at this
      have hn := joinT_take sep r k y hy
      have hl := joinT_le sep r (k + 1)
      rw [hn] at hl
      simp only [List.length_append] at hl
      have Hn := hidL hn
      clear hn hy
      have hj := Hlr.out
      have hj2 := HT.out
      have hl3 : (joinT sep (r.take k)).length + sep.length + y.length ≤ M + T := by omega
      clear hl hj hj2
      go_wp2_with (go_at_call 49; refine (ws_k w.heap.size w.heap.size _ _ _ HB.out ?l2 sr).mono ?_)
      case l2 => have := HT.out; rw [Lib.byteCells_length]; simp [ByteArray.size]; omega
      rintro e w3 ⟨rfl, h3, b3, _⟩
      have H3 := hidL h3
      have B3 := hidL (HW.out.trans b3)
      clear h3 b3
      have s3 := B3.out.size
      go_wp2_with (go_at_call 49; refine (ws_k w.heap.size w.heap.size _ _ _ (Or.inr H3.out) ?l3 s3).mono ?_)
      case l3 => have := HT.out; simp [Lib.byteCells_length, Lib.strCells_length, ByteArray.size]; omega
      rintro e w4 ⟨rfl, h4, b4, _⟩
      have e4 : Lib.byteCells (x0 ++ joinT sep (r.take k)) ++ Lib.strCells ⟨sep.toArray⟩ ++ Lib.strCells ⟨y.toArray⟩ = Lib.byteCells (x0 ++ joinT sep (r.take (k + 1))) := by
       rw [Hn.out]
       simp [Lib.strCells_eq, Lib.byteCells_append]
      rw [e4] at h4
      have H4 := hidL (Or.inr h4 : Lib.IsBuilderF 109 5 w.heap.size w.heap.size (Lib.byteCells (x0 ++ joinT sep (r.take (k + 1)))) w4)
      have B4 := hidL (B3.out.trans b4)
      clear h4 b4 e4
      go_wp2
      exact ⟨⟨k + 1, by omega, by go_num, H4, B4⟩, by simp [intOf]; omega⟩
     ·have hke : k = r.length := by omega
      subst hke
      have hfull : r.take r.length = r := List.take_of_length_le (Nat.le_refl _)
      have hB' := HB.out
      rw [hfull] at hB'
      go_wp2_with (go_at_call 50; refine (Tryd.Builder_String_any_k w.heap.size w.heap.size _ wr hB' sr).mono ?_)
      rintro e w5 ⟨rfl, _, b5, _⟩
      have B5 := HW.out.trans b5
      clear hB' b5
      go_wp2
      go_ret
      exact ⟨rfl, B5⟩)
theorem join_all (A : Option Addr) (c : Nat) (xs : List (List UInt8)) (sep : List UInt8) (w : World) (hc : 0 < xs.length → ∃ ad, A = some ad ∧ ∀ j x, xs[j]? = some x → w.cell? (ad.add j) = some (.string ⟨x.toArray⟩)) (hle : xs.length ≤ c) (hN : xs.length ≤ 1099511627776) (hlen : (joinL sep xs).length ≤ 1099511627776) :
  Calls Tryd.prog 96 #[.slice A xs.length c, .string ⟨sep.toArray⟩] w fun e w' => e = .returned (.string ⟨(joinL sep xs).toArray⟩) ∧ Below w.heap.size w w' := by
 have t163 := Tryd.underlying163; have a163 := Tryd.isAgg163; have z163 := Tryd.sizeOf163; have v163 := Tryd.zeroValue163; have u163 := run_underlying Tryd.underlying163
 have t3 := Tryd.underlying3; have a3 := Tryd.isAgg3; have z3 := Tryd.sizeOf3; have v3 := Tryd.zeroValue3; have u3 := run_underlying Tryd.underlying3
 have t9 := Tryd.underlying9; have a9 := Tryd.isAgg9; have z9 := Tryd.sizeOf9; have v9 := Tryd.zeroValue9; have u9 := run_underlying Tryd.underlying9
 have t4 := Tryd.underlying4; have a4 := Tryd.isAgg4; have z4 := Tryd.sizeOf4; have v4 := Tryd.zeroValue4; have u4 := run_underlying Tryd.underlying4
 match xs, hc, hle, hN, hlen with
 | [], _, _, _, _ =>
  go_enter Tryd.func96, Tryd.ntmps96
  go_wp2
  go_ret
  exact ⟨rfl, Below.refl _ _⟩
 | [x], hc, hle, _, _ =>
  obtain ⟨ad, rfl, h⟩ := hc (by simp)
  have h0 : w.cell? ad = some (.string ⟨x.toArray⟩) := h 0 x rfl
  have hx : joinL sep [x] = x := by simp [joinL, joinT]
  rw [hx]
  clear hc h hx
  go_enter Tryd.func96, Tryd.ntmps96
  go_wp2
  go_ret
  exact ⟨rfl, Below.refl _ _⟩
 | x0 :: x1 :: r, hc, hle, hN, hlen =>
  obtain ⟨ad, rfl, h⟩ := hc (by simp)
  have h0 := h 0 x0 rfl
  have hb : ad.block < w.heap.size := by
   rcases Nat.lt_or_ge ad.block w.heap.size with h1 | h1
   ·exact h1
   ·have h0 : w.cell? ad = some (.string ⟨x0.toArray⟩) := h0
    simp [World.cell?, Array.getElem?_eq_none h1] at h0
  exact join_walk ad c x0 (x1 :: r) sep w h hb (by simp) hle (by simp only [List.length_cons] at hN ⊢; omega) hlen
end Go.Fn
namespace Go.Lf
open Go Go.Eng Go.RowKit
theorem strs_cells {φ : Phi} {l : List (List UInt8)} {css : List (List Value)} (h : All2 (fun (x : List UInt8) cs => Rp φ .str x cs []) l css) : css.flatten = l.map Eng.str := by
 induction h with
 | nil => rfl
 | cons h1 _ ih =>
  obtain ⟨rfl, _⟩ := h1
  rw [List.flatten_cons, ih]
  rfl
theorem map_str_get {l : List (List UInt8)} {j : Nat} {x : List UInt8} (hx : l[j]? = some x) : (l.map Eng.str)[j]? = some (Eng.str x) := by rw [List.getElem?_map, hx]; rfl
theorem ent_callsA {P : Program} {G : World → Prop} {f : Nat} {ps : List Par} {rs : List Ty} {F : prodT (ps.map Par.ty) → Option (prodT (rs ++ outs ps))} (go : GoFn P f) (top : ∀ t, Par.val t ∈ ps → t.top = true) (ho : outs ps = [])
  (h : ∀ z r w φ vals gs hs, F z = some r → G w → Agree φ w → ArgsR φ ps z vals gs hs → Calls P f vals.toArray w fun e w' => (∃ vs, e = .returned (resVal vs) ∧ TupR φ ((unProd (rs ++ outs ps) r).take rs.length) vs []) ∧ Below w.heap.size w w') : EntryOk P G f ⟨ps, rs, F⟩ := by
 refine ⟨go, top, fun z r hz C φ vals gs hs ha hb => ?_⟩
 have hb0 : Hb C C.w0 [] (Inv G φ) := (Sub.nil hs).hb hb
 refine (h z r C.w0 φ vals gs hs hz hb.get.1 hb.get.2 ha).mono ?_
 rintro e w' ⟨⟨vs, rfl, ht⟩, hbl⟩
 have hg := argsR_gs ha ho
 subst hg
 refine ⟨_, φ, [], [], rfl, φ.le_refl, hb_below hb0 hbl, ⟨vs, ht, rfl⟩, ?_⟩
 rw [drop_obs ho]
 exact .nil
end Go.Lf
namespace Go.Fn
open Go Go.Lf Go.Eng Go.RowKit Go.Proofs
def strings_Join (z : List (List UInt8) × List UInt8) : Option (List UInt8) := if z.1.length ≤ 1099511627776 ∧ (joinL z.2 z.1).length ≤ 1099511627776 then some (joinL z.2 z.1) else none
def strings_JoinEnt : Nat × Entry := (96, ⟨[.val (.sl .str), .val .str], [.str], fun z => strings_Join z⟩)
theorem strings_Join_ok : EntryOk Tryd.prog GG 96 strings_JoinEnt.2 := by
 refine ent_callsA (ps := [.val (.sl .str), .val .str]) (rs := [.str]) (GoFn.mk Tryd.f96 (by kernel_rfl) (by kernel_rfl) (by kernel_rfl)) (by simp [Ty.top]) rfl fun z r w φ vals gs hs hz hG hA ha => ?_
 have hz : strings_Join z = some r := hz
 unfold strings_Join at hz
 split at hz
 case isFalse => cases hz
 case isTrue hC =>
 injection hz with hz
 subst hz
 cases ha with
 | val h1 h2 h3 =>
 cases h3 with
 | val h4 h5 h6 =>
 cases h6
 obtain ⟨A, c, css, rfl, hle, hall, hrd, _⟩ := h2
 obtain ⟨rfl, _⟩ := h5
 refine (join_all A c z.1 z.2 w (fun h0 => ?_) hle hC.1 hC.2).mono ?_
 ·obtain ⟨ad, rfl, hp⟩ := hrd h0
  refine ⟨ad, rfl, fun j x hx => hA _ _ (hp j _ ?_)⟩
  have hs := strs_cells (l := z.1) hall
  exact (congrArg (fun l : List Value => l[j]?) hs).trans (map_str_get hx)
 ·rintro e w' ⟨rfl, hb⟩
  exact ⟨⟨[Eng.str (joinL z.2 z.1)], rfl, TupR.cons (t := .str) (x := joinL z.2 z.1) (cs := [_]) (h := []) (hs := []) rfl ⟨rfl, rfl⟩ .nil⟩, hb⟩
end Go.Fn
/- What an error of ours says, as an entry. -/
namespace Go.Fn
open Go Go.Lf Go.Eng Go.RowKit Go.Proofs
abbrev FltT : Ty := .st (.pr (.int .i64) (.pr (.int .i64) (.pr (.int .i64) (.pr (.int .i64) (.pr .str (.pr (.sl (.st (.pr .str (.pr (.int .i64) .unit)))) .unit))))))
abbrev ErrS : Ty := .st (.pr (.int .i64) (.pr FltT .unit))
noncomputable def fault_Error__Error (z : ErrS.den) : Option (List UInt8) :=
 if z.1 = (1 : Int) ∧ (NumOk z.2.1.1 ∧ NumOk z.2.1.2.1 ∧ NumOk z.2.1.2.2.1 ∧ NumOk z.2.1.2.2.2.1) ∧ List.length (z.2.1.2.2.2.2.1 : List UInt8) ≤ 1099511627776 ∧ List.length (z.2.1.2.2.2.2.2.1 : List (Ty.den (.st (.pr .str (.pr (.int .i64) .unit))))) = 0 then some (errText z.2.1.1 z.2.1.2.1 z.2.1.2.2.1 z.2.1.2.2.2.1 z.2.1.2.2.2.2.1) else none
noncomputable def fault_Error__ErrorEnt : Nat × Entry := (34, ⟨[.val (.ptr ErrS)], [.str], fun z => fault_Error__Error z⟩)
theorem fault_Error__Error_ok : EntryOk Tryd.prog GG 34 fault_Error__ErrorEnt.2 := by
 refine ent_callsA (ps := [.val (.ptr ErrS)]) (rs := [.str]) (GoFn.mk Tryd.f34 (by kernel_rfl) (by kernel_rfl) (by kernel_rfl)) (by simp [Ty.top]) rfl fun z r w φ vals gs hs hz hG hA ha => ?_
 have hz : fault_Error__Error z = some r := hz
 unfold fault_Error__Error at hz
 split at hz
 case isFalse => cases hz
 case isTrue hC =>
 injection hz with hz
 subst hz
 cases ha with
 | val h1 h2 h3 =>
 cases h3
 obtain ⟨ad, cs', rfl, hR, hP, _⟩ := h2
 obtain ⟨_, _, _, _, rfl, _, ⟨rfl, _⟩, ⟨_, _, _, _, rfl, _, ⟨_, _, _, _, rfl, _, ⟨rfl, _⟩, ⟨_, _, _, _, rfl, _, ⟨rfl, _⟩, ⟨_, _, _, _, rfl, _, ⟨rfl, _⟩, ⟨_, _, _, _, rfl, _, ⟨rfl, _⟩, ⟨_, _, _, _, rfl, _, ⟨rfl, _⟩, ⟨_, _, _, _, rfl, _, ⟨A, cc, css, rfl, hle, hall, hrd, _⟩, ⟨rfl, _⟩⟩⟩⟩⟩⟩⟩, ⟨rfl, _⟩⟩⟩ := hR
 obtain ⟨c1, ⟨b1, b2, b3, b4⟩, hw, htr⟩ := hC
 have q := fun j v hj => hA _ _ (hP j v hj)
 refine (errtext_walk ad z.2.1.1 z.2.1.2.1 z.2.1.2.2.1 z.2.1.2.2.2.1 ⟨(z.2.1.2.2.2.2.1 : List UInt8).toArray⟩ A cc b1 b2 b3 b4 (by simpa [ByteArray.size] using hw) w hG.1 ?_).mono ?_
 ·refine ⟨?_, q 1 _ rfl, q 2 _ rfl, q 3 _ rfl, q 4 _ rfl, q 5 _ rfl, ?_⟩
  ·exact (q 0 _ rfl).trans (congrArg (fun n : Int => some (Value.int IntKind.i64 n)) c1)
  ·exact (q 6 _ rfl).trans (congrArg (fun n : Nat => some (Value.slice A n cc)) htr)
 ·rintro e w' ⟨rfl, hb⟩
  exact ⟨⟨[Eng.str (errText z.2.1.1 z.2.1.2.1 z.2.1.2.2.1 z.2.1.2.2.2.1 z.2.1.2.2.2.2.1)], rfl, TupR.cons (t := .str) (x := errText z.2.1.1 z.2.1.2.1 z.2.1.2.2.1 z.2.1.2.2.2.1 z.2.1.2.2.2.2.1) (cs := [_]) (h := []) (hs := []) rfl ⟨rfl, rfl⟩ .nil⟩, hb⟩
end Go.Fn
open Go Go.Lf
set_option maxRecDepth 10000
namespace Go.Fn
abbrev mY0 : Lf.Ty := (.st (.pr .str (.pr (.int .i64) .unit)))
abbrev mT1 : Type := (List ((List (UInt8)) × ((Int) × (Unit))))
abbrev mY2 : Lf.Ty := (.pr .str (.pr (.sl mY0) .unit))
abbrev mT3 : Type := ((List (UInt8)) × (mT1 × (Unit)))
abbrev mT4 : Type := ((Int) × ((Int) × ((Int) × mT3)))
abbrev mY5 : Lf.Ty := (.pr (.int .i64) (.pr (.int .i64) mY2))
abbrev mY6 : Lf.Ty := (.pr (.int .i64) (.pr (.int .i64) mY5))
abbrev mY7 : Lf.Ty := (.pr (.int .i64) (.pr (.st mY6) .unit))
def Tys : List (Nat × Lf.TyI) := [(2, ⟨(.int .i64), 0, 0⟩),
 (3, ⟨(.int .i64), 0, 0⟩),
 (4, ⟨.bool, 0, 0⟩),
 (5, ⟨(.int .u8), 0, 0⟩),
 (6, ⟨(.int .u8), 0, 0⟩),
 (7, ⟨(.st (.pr (.int .i64) (.pr (.int .i64) (.pr .bool (.pr (.int .u8) .unit))))), 0, 0⟩),
 (8, ⟨(.st (.pr (.int .i64) (.pr (.int .i64) (.pr .bool (.pr (.int .u8) .unit))))), 0, 0⟩),
 (9, ⟨.str, 0, 0⟩),
 (10, ⟨.str, 0, 0⟩),
 (11, ⟨.str, 0, 0⟩),
 (12, ⟨(.int .u64), 0, 0⟩),
 (13, ⟨(.st (.pr .str (.pr (.int .u64) .unit))), 0, 0⟩),
 (14, ⟨(.st (.pr .str (.pr (.int .u64) .unit))), 0, 0⟩),
 (21, ⟨(.int .i32), 0, 0⟩),
 (22, ⟨(.sl (.st (.pr (.int .i64) (.pr (.st mY6) (.pr .str (.pr (.int .i64) (.pr (.sl (.int .i64)) .unit))))))), 68, 128⟩),
 (25, ⟨(.sl .tr), 28, 16⟩),
 (28, ⟨.tr, 0, 0⟩),
 (40, ⟨(.int .i64), 0, 0⟩),
 (43, ⟨(.st mY6), 0, 0⟩),
 (59, ⟨(.st mY7), 0, 0⟩),
 (60, ⟨(.st mY7), 0, 0⟩),
 (66, ⟨mY0, 0, 0⟩),
 (72, ⟨(.st (.pr .str .unit)), 0, 0⟩),
 (74, ⟨(.st (.pr .str (.pr .tr .unit))), 0, 0⟩),
 (76, ⟨(.st (.pr .str (.pr (.sl .tr) .unit))), 0, 0⟩),
 (80, ⟨(.st (.pr mY0 (.pr .tr .unit))), 0, 0⟩),
 (83, ⟨(.st (.pr (.int .i64) (.pr .tr .unit))), 0, 0⟩),
 (86, ⟨(.st (.pr (.sl .tr) .unit)), 0, 0⟩),
 (163, ⟨(.sl .str), 9, 16⟩),
 (27, ⟨.tr, 0, 0⟩),
 (28, ⟨.tr, 0, 0⟩),
 (37, ⟨(.ptr (.st mY7)), 0, 0⟩),
 (78, ⟨(.ptr (.st (.pr mY0 (.pr .tr .unit)))), 0, 0⟩),
 (81, ⟨(.ptr (.st (.pr (.int .i64) (.pr .tr .unit)))), 0, 0⟩),
 (84, ⟨(.ptr (.st (.pr (.sl .tr) .unit))), 0, 0⟩),
 (121, ⟨.tr, 0, 0⟩),
 (123, ⟨.tr, 0, 0⟩),
 (125, ⟨.tr, 0, 0⟩),
 (126, ⟨.tr, 0, 0⟩),
 (127, ⟨.tr, 0, 0⟩)]
theorem Tys_ok : ∀ id i, Lf.look Tys id = some i → Lf.TyOk Proofs.Tryd.prog id i := Lf.tysB_ok (by kernel_rfl)
def TysEq : List (Nat × Lf.Ty) := []
theorem TysEq_ok : ∀ id t, Lf.look TysEq id = some t → Lf.eqTop Proofs.Tryd.prog id t = true := Lf.eqsB_ok (by kernel_rfl)
def TysIm : List (Nat × List (Nat × Bool)) := [(125, [(37, false), (78, true), (81, true), (84, false), (72, false), (74, true), (76, false)]), (126, [(37, false), (78, false), (81, false), (84, true), (72, false), (74, false), (76, true)])]
theorem TysIm_ok : ∀ a l, Lf.look TysIm a = some l → Lf.ImOk Proofs.Tryd.prog a l := Lf.imsB_ok (by kernel_rfl)
noncomputable def fault_Error__isCtx : Lf.Ctx := ⟨12, Tys, [], [], [], [], [], TysEq, [], none, TysIm, []⟩
noncomputable def fault_Error__isCode : Go.Code := (Proofs.Tryd.f44.body).getD .skip
def fault_Error__isAnn : Lf.Ann := (.seq .no (.seq (.join (.one .nrm ⟨[], [], [(2, .bool)], [], []⟩) .no) .no))
noncomputable def fault_Error__is (a0 : Option ((Int) × (((Int) × mT4) × (Unit)))) : Option (Bool) :=
 (bif (Option.isSome a0) then (a0).bind fun r1 =>
   some (decide ((r1.1 : Int) = (1 : Int)))
   else some false).bind fun r2 =>
 some r2
theorem fault_Error__is_eq (a0 : Option ((Int) × (((Int) × mT4) × (Unit)))) : Lf.fnE fault_Error__isCtx fault_Error__isCode fault_Error__isAnn [.val (.op (.st mY7))] [.bool] [.tmp 2] (a0) = fault_Error__is a0 := by kernel_rfl
noncomputable def fault_Error__isEnt : Nat × Lf.Entry := (44, ⟨[.val (.op (.st mY7))], [.bool], fun z => fault_Error__is z⟩)
theorem fault_Error__is_ok : Lf.EntryOk Proofs.Tryd.prog GG 44 fault_Error__isEnt.2 :=
  Lf.fn_ok (c := fault_Error__isCtx) (code := fault_Error__isCode) (an := fault_Error__isAnn) (slots := [.tmp 2]) (fn := Proofs.Tryd.f44) (by kernel_rfl) ⟨Tys_ok, Lf.FnsOk.look .nil, Lf.IpsOk.look .nil, TysEq_ok, TysIm_ok, Lf.IvsOk.look .nil, Lf.FxsOk.look .nil⟩ (by kernel_rfl) (by kernel_rfl) (by kernel_rfl) (by kernel_rfl) (by kernel_rfl) (Nat.le_of_ble_eq_true rfl) (by simp [Lf.Ty.top]) (by simp [Lf.Ty.top]) fun z r h => (fault_Error__is_eq z).trans h
noncomputable def fault_Error__IsCtx : Lf.Ctx := ⟨34, Tys, [fault_Error__isEnt], [], [], [], [], TysEq, [], none, TysIm, []⟩
noncomputable def fault_Error__IsCode : Go.Code := (Proofs.Tryd.f84.body).getD .skip
def fault_Error__IsAnn : Lf.Ann := (.seq .no (.seq .no (.seq (.join (.one .nrm ⟨[], [], [(4, .bool)], [], []⟩) (.draw 23)) .no)))
noncomputable def fault_Error__Is (a0 : (Int) × (((Int) × mT4) × (Unit))) (a1 : Lf.Er) : Option (Bool) :=
 ((Lf.asP (37 : Nat) (.st mY7) a1)).bind fun r1 =>
 (bif (Option.isSome r1) then ((Go.Fn.fault_Error__is (some a0))).bind fun r2 =>
   bif r2 then ((Go.Fn.fault_Error__is r1)).bind fun r3 =>
   bif r3 then (r1).bind fun r4 =>
   some (decide ((r4.2.1.1 : Int) = a0.2.1.1))
   else some false
   else some false
   else some false).bind fun r5 =>
 some r5
theorem fault_Error__Is_eq (a0 : (Int) × (((Int) × mT4) × (Unit))) (a1 : Lf.Er) : Lf.fnE fault_Error__IsCtx fault_Error__IsCode fault_Error__IsAnn [.val (.ptr (.st mY7)), .val .tr] [.bool] [.tmp 4] (a0, a1) = fault_Error__Is a0 a1 := by kernel_rfl
noncomputable def fault_Error__IsEnt : Nat × Lf.Entry := (84, ⟨[.val (.ptr (.st mY7)), .val .tr], [.bool], fun z => fault_Error__Is z.1 z.2⟩)
theorem fault_Error__Is_ok : Lf.EntryOk Proofs.Tryd.prog GG 84 fault_Error__IsEnt.2 :=
  Lf.fn_ok (c := fault_Error__IsCtx) (code := fault_Error__IsCode) (an := fault_Error__IsAnn) (slots := [.tmp 4]) (fn := Proofs.Tryd.f84) (by kernel_rfl) ⟨Tys_ok, Lf.FnsOk.look (.con fault_Error__is_ok .nil), Lf.IpsOk.look .nil, TysEq_ok, TysIm_ok, Lf.IvsOk.look .nil, Lf.FxsOk.look .nil⟩ (by kernel_rfl) (by kernel_rfl) (by kernel_rfl) (by kernel_rfl) (by kernel_rfl) (Nat.le_of_ble_eq_true rfl) (by simp [Lf.Ty.top]) (by simp [Lf.Ty.top]) fun z r h => (fault_Error__Is_eq z.1 z.2).trans h
noncomputable def fault_under__UnwrapCtx : Lf.Ctx := ⟨7, Tys, [], [], [], [], [], TysEq, [], none, TysIm, []⟩
noncomputable def fault_under__UnwrapCode : Go.Code := (Proofs.Tryd.f91.body).getD .skip
def fault_under__UnwrapAnn : Lf.Ann := .no
noncomputable def fault_under__Unwrap (a0 : ((List (UInt8)) × ((Int) × (Unit))) × ((Lf.Er) × (Unit))) : Option (Lf.Er) :=
 some a0.2.1
theorem fault_under__Unwrap_eq (a0 : ((List (UInt8)) × ((Int) × (Unit))) × ((Lf.Er) × (Unit))) : Lf.fnE fault_under__UnwrapCtx fault_under__UnwrapCode fault_under__UnwrapAnn [.val (.ptr (.st (.pr mY0 (.pr .tr .unit))))] [.tr] [.tmp 2] (a0) = fault_under__Unwrap a0 := by kernel_rfl
noncomputable def fault_under__UnwrapEnt : Nat × Lf.Entry := (91, ⟨[.val (.ptr (.st (.pr mY0 (.pr .tr .unit))))], [.tr], fun z => fault_under__Unwrap z⟩)
theorem fault_under__Unwrap_ok : Lf.EntryOk Proofs.Tryd.prog GG 91 fault_under__UnwrapEnt.2 :=
  Lf.fn_ok (c := fault_under__UnwrapCtx) (code := fault_under__UnwrapCode) (an := fault_under__UnwrapAnn) (slots := [.tmp 2]) (fn := Proofs.Tryd.f91) (by kernel_rfl) ⟨Tys_ok, Lf.FnsOk.look .nil, Lf.IpsOk.look .nil, TysEq_ok, TysIm_ok, Lf.IvsOk.look .nil, Lf.FxsOk.look .nil⟩ (by kernel_rfl) (by kernel_rfl) (by kernel_rfl) (by kernel_rfl) (by kernel_rfl) (Nat.le_of_ble_eq_true rfl) (by simp [Lf.Ty.top]) (by simp [Lf.Ty.top]) fun z r h => (fault_under__Unwrap_eq z).trans h
noncomputable def fault_in__UnwrapCtx : Lf.Ctx := ⟨7, Tys, [], [], [], [], [], TysEq, [], none, TysIm, []⟩
noncomputable def fault_in__UnwrapCode : Go.Code := (Proofs.Tryd.f93.body).getD .skip
def fault_in__UnwrapAnn : Lf.Ann := .no
noncomputable def fault_in__Unwrap (a0 : (Int) × ((Lf.Er) × (Unit))) : Option (Lf.Er) :=
 some a0.2.1
theorem fault_in__Unwrap_eq (a0 : (Int) × ((Lf.Er) × (Unit))) : Lf.fnE fault_in__UnwrapCtx fault_in__UnwrapCode fault_in__UnwrapAnn [.val (.ptr (.st (.pr (.int .i64) (.pr .tr .unit))))] [.tr] [.tmp 2] (a0) = fault_in__Unwrap a0 := by kernel_rfl
noncomputable def fault_in__UnwrapEnt : Nat × Lf.Entry := (93, ⟨[.val (.ptr (.st (.pr (.int .i64) (.pr .tr .unit))))], [.tr], fun z => fault_in__Unwrap z⟩)
theorem fault_in__Unwrap_ok : Lf.EntryOk Proofs.Tryd.prog GG 93 fault_in__UnwrapEnt.2 :=
  Lf.fn_ok (c := fault_in__UnwrapCtx) (code := fault_in__UnwrapCode) (an := fault_in__UnwrapAnn) (slots := [.tmp 2]) (fn := Proofs.Tryd.f93) (by kernel_rfl) ⟨Tys_ok, Lf.FnsOk.look .nil, Lf.IpsOk.look .nil, TysEq_ok, TysIm_ok, Lf.IvsOk.look .nil, Lf.FxsOk.look .nil⟩ (by kernel_rfl) (by kernel_rfl) (by kernel_rfl) (by kernel_rfl) (by kernel_rfl) (Nat.le_of_ble_eq_true rfl) (by simp [Lf.Ty.top]) (by simp [Lf.Ty.top]) fun z r h => (fault_in__Unwrap_eq z).trans h
noncomputable def fault_joined__UnwrapCtx : Lf.Ctx := ⟨8, Tys, [], [], [], [], [], TysEq, [], none, TysIm, []⟩
noncomputable def fault_joined__UnwrapCode : Go.Code := (Proofs.Tryd.f95.body).getD .skip
def fault_joined__UnwrapAnn : Lf.Ann := .no
noncomputable def fault_joined__Unwrap (a0 : (List (Lf.Er)) × (Unit)) : Option (List (Lf.Er)) :=
 ((Lf.app (16 : Nat) ([] : List (Lf.Er)) a0.1)).bind fun r1 =>
 some r1
theorem fault_joined__Unwrap_eq (a0 : (List (Lf.Er)) × (Unit)) : Lf.fnE fault_joined__UnwrapCtx fault_joined__UnwrapCode fault_joined__UnwrapAnn [.val (.ptr (.st (.pr (.sl .tr) .unit)))] [(.sl .tr)] [.tmp 2] (a0) = fault_joined__Unwrap a0 := by kernel_rfl
noncomputable def fault_joined__UnwrapEnt : Nat × Lf.Entry := (95, ⟨[.val (.ptr (.st (.pr (.sl .tr) .unit)))], [(.sl .tr)], fun z => fault_joined__Unwrap z⟩)
theorem fault_joined__Unwrap_ok : Lf.EntryOk Proofs.Tryd.prog GG 95 fault_joined__UnwrapEnt.2 :=
  Lf.fn_ok (c := fault_joined__UnwrapCtx) (code := fault_joined__UnwrapCode) (an := fault_joined__UnwrapAnn) (slots := [.tmp 2]) (fn := Proofs.Tryd.f95) (by kernel_rfl) ⟨Tys_ok, Lf.FnsOk.look .nil, Lf.IpsOk.look .nil, TysEq_ok, TysIm_ok, Lf.IvsOk.look .nil, Lf.FxsOk.look .nil⟩ (by kernel_rfl) (by kernel_rfl) (by kernel_rfl) (by kernel_rfl) (by kernel_rfl) (Nat.le_of_ble_eq_true rfl) (by simp [Lf.Ty.top]) (by simp [Lf.Ty.top]) fun z r h => (fault_joined__Unwrap_eq z).trans h
noncomputable def foliolaw01_wrapped__UnwrapCtx : Lf.Ctx := ⟨5, Tys, [], [], [], [], [], TysEq, [], none, TysIm, []⟩
noncomputable def foliolaw01_wrapped__UnwrapCode : Go.Code := (Proofs.Tryd.f87.body).getD .skip
def foliolaw01_wrapped__UnwrapAnn : Lf.Ann := .no
noncomputable def foliolaw01_wrapped__Unwrap (a0 : (List (UInt8)) × ((Lf.Er) × (Unit))) : Option (Lf.Er) :=
 some a0.2.1
theorem foliolaw01_wrapped__Unwrap_eq (a0 : (List (UInt8)) × ((Lf.Er) × (Unit))) : Lf.fnE foliolaw01_wrapped__UnwrapCtx foliolaw01_wrapped__UnwrapCode foliolaw01_wrapped__UnwrapAnn [.val (.st (.pr .str (.pr .tr .unit)))] [.tr] [.tmp 2] (a0) = foliolaw01_wrapped__Unwrap a0 := by kernel_rfl
noncomputable def foliolaw01_wrapped__UnwrapEnt : Nat × Lf.Entry := (87, ⟨[.val (.st (.pr .str (.pr .tr .unit)))], [.tr], fun z => foliolaw01_wrapped__Unwrap z⟩)
theorem foliolaw01_wrapped__Unwrap_ok : Lf.EntryOk Proofs.Tryd.prog GG 87 foliolaw01_wrapped__UnwrapEnt.2 :=
  Lf.fn_ok (c := foliolaw01_wrapped__UnwrapCtx) (code := foliolaw01_wrapped__UnwrapCode) (an := foliolaw01_wrapped__UnwrapAnn) (slots := [.tmp 2]) (fn := Proofs.Tryd.f87) (by kernel_rfl) ⟨Tys_ok, Lf.FnsOk.look .nil, Lf.IpsOk.look .nil, TysEq_ok, TysIm_ok, Lf.IvsOk.look .nil, Lf.FxsOk.look .nil⟩ (by kernel_rfl) (by kernel_rfl) (by kernel_rfl) (by kernel_rfl) (by kernel_rfl) (Nat.le_of_ble_eq_true rfl) (by simp [Lf.Ty.top]) (by simp [Lf.Ty.top]) fun z r h => (foliolaw01_wrapped__Unwrap_eq z).trans h
noncomputable def foliolaw01_many__UnwrapCtx : Lf.Ctx := ⟨5, Tys, [], [2, 4], [], [(2, (.rw 28 .tr)), (4, (.rw 28 .tr))], [], TysEq, [], none, TysIm, []⟩
noncomputable def foliolaw01_many__UnwrapCode : Go.Code := (Proofs.Tryd.f89.body).getD .skip
def foliolaw01_many__UnwrapAnn : Lf.Ann := .no
noncomputable def foliolaw01_many__Unwrap (a0 : (List (UInt8)) × ((List (Lf.Er)) × (Unit))) : Option (List (Lf.Er)) :=
 some a0.2.1
theorem foliolaw01_many__Unwrap_eq (a0 : (List (UInt8)) × ((List (Lf.Er)) × (Unit))) : Lf.fnE foliolaw01_many__UnwrapCtx foliolaw01_many__UnwrapCode foliolaw01_many__UnwrapAnn [.val (.st (.pr .str (.pr (.sl .tr) .unit)))] [(.sl .tr)] [.tmp 2] (a0) = foliolaw01_many__Unwrap a0 := by kernel_rfl
noncomputable def foliolaw01_many__UnwrapEnt : Nat × Lf.Entry := (89, ⟨[.val (.st (.pr .str (.pr (.sl .tr) .unit)))], [(.sl .tr)], fun z => foliolaw01_many__Unwrap z⟩)
theorem foliolaw01_many__Unwrap_ok : Lf.EntryOk Proofs.Tryd.prog GG 89 foliolaw01_many__UnwrapEnt.2 :=
  Lf.fn_ok (c := foliolaw01_many__UnwrapCtx) (code := foliolaw01_many__UnwrapCode) (an := foliolaw01_many__UnwrapAnn) (slots := [.tmp 2]) (fn := Proofs.Tryd.f89) (by kernel_rfl) ⟨Tys_ok, Lf.FnsOk.look .nil, Lf.IpsOk.look .nil, TysEq_ok, TysIm_ok, Lf.IvsOk.look .nil, Lf.FxsOk.look .nil⟩ (by kernel_rfl) (by kernel_rfl) (by kernel_rfl) (by kernel_rfl) (by kernel_rfl) (Nat.le_of_ble_eq_true rfl) (by simp [Lf.Ty.top]) (by simp [Lf.Ty.top]) fun z r h => (foliolaw01_many__Unwrap_eq z).trans h
noncomputable def foliolaw01_plain__ErrorCtx : Lf.Ctx := ⟨5, Tys, [], [], [], [], [], TysEq, [], none, TysIm, []⟩
noncomputable def foliolaw01_plain__ErrorCode : Go.Code := (Proofs.Tryd.f85.body).getD .skip
def foliolaw01_plain__ErrorAnn : Lf.Ann := .no
noncomputable def foliolaw01_plain__Error (a0 : (List (UInt8)) × (Unit)) : Option (List (UInt8)) :=
 some a0.1
theorem foliolaw01_plain__Error_eq (a0 : (List (UInt8)) × (Unit)) : Lf.fnE foliolaw01_plain__ErrorCtx foliolaw01_plain__ErrorCode foliolaw01_plain__ErrorAnn [.val (.st (.pr .str .unit))] [.str] [.tmp 2] (a0) = foliolaw01_plain__Error a0 := by kernel_rfl
noncomputable def foliolaw01_plain__ErrorEnt : Nat × Lf.Entry := (85, ⟨[.val (.st (.pr .str .unit))], [.str], fun z => foliolaw01_plain__Error z⟩)
theorem foliolaw01_plain__Error_ok : Lf.EntryOk Proofs.Tryd.prog GG 85 foliolaw01_plain__ErrorEnt.2 :=
  Lf.fn_ok (c := foliolaw01_plain__ErrorCtx) (code := foliolaw01_plain__ErrorCode) (an := foliolaw01_plain__ErrorAnn) (slots := [.tmp 2]) (fn := Proofs.Tryd.f85) (by kernel_rfl) ⟨Tys_ok, Lf.FnsOk.look .nil, Lf.IpsOk.look .nil, TysEq_ok, TysIm_ok, Lf.IvsOk.look .nil, Lf.FxsOk.look .nil⟩ (by kernel_rfl) (by kernel_rfl) (by kernel_rfl) (by kernel_rfl) (by kernel_rfl) (Nat.le_of_ble_eq_true rfl) (by simp [Lf.Ty.top]) (by simp [Lf.Ty.top]) fun z r h => (foliolaw01_plain__Error_eq z).trans h
noncomputable def foliolaw01_wrapped__ErrorCtx : Lf.Ctx := ⟨5, Tys, [], [], [], [], [], TysEq, [], none, TysIm, []⟩
noncomputable def foliolaw01_wrapped__ErrorCode : Go.Code := (Proofs.Tryd.f86.body).getD .skip
def foliolaw01_wrapped__ErrorAnn : Lf.Ann := .no
noncomputable def foliolaw01_wrapped__Error (a0 : (List (UInt8)) × ((Lf.Er) × (Unit))) : Option (List (UInt8)) :=
 some a0.1
theorem foliolaw01_wrapped__Error_eq (a0 : (List (UInt8)) × ((Lf.Er) × (Unit))) : Lf.fnE foliolaw01_wrapped__ErrorCtx foliolaw01_wrapped__ErrorCode foliolaw01_wrapped__ErrorAnn [.val (.st (.pr .str (.pr .tr .unit)))] [.str] [.tmp 2] (a0) = foliolaw01_wrapped__Error a0 := by kernel_rfl
noncomputable def foliolaw01_wrapped__ErrorEnt : Nat × Lf.Entry := (86, ⟨[.val (.st (.pr .str (.pr .tr .unit)))], [.str], fun z => foliolaw01_wrapped__Error z⟩)
theorem foliolaw01_wrapped__Error_ok : Lf.EntryOk Proofs.Tryd.prog GG 86 foliolaw01_wrapped__ErrorEnt.2 :=
  Lf.fn_ok (c := foliolaw01_wrapped__ErrorCtx) (code := foliolaw01_wrapped__ErrorCode) (an := foliolaw01_wrapped__ErrorAnn) (slots := [.tmp 2]) (fn := Proofs.Tryd.f86) (by kernel_rfl) ⟨Tys_ok, Lf.FnsOk.look .nil, Lf.IpsOk.look .nil, TysEq_ok, TysIm_ok, Lf.IvsOk.look .nil, Lf.FxsOk.look .nil⟩ (by kernel_rfl) (by kernel_rfl) (by kernel_rfl) (by kernel_rfl) (by kernel_rfl) (Nat.le_of_ble_eq_true rfl) (by simp [Lf.Ty.top]) (by simp [Lf.Ty.top]) fun z r h => (foliolaw01_wrapped__Error_eq z).trans h
noncomputable def foliolaw01_many__ErrorCtx : Lf.Ctx := ⟨5, Tys, [], [], [], [], [], TysEq, [], none, TysIm, []⟩
noncomputable def foliolaw01_many__ErrorCode : Go.Code := (Proofs.Tryd.f88.body).getD .skip
def foliolaw01_many__ErrorAnn : Lf.Ann := .no
noncomputable def foliolaw01_many__Error (a0 : (List (UInt8)) × ((List (Lf.Er)) × (Unit))) : Option (List (UInt8)) :=
 some a0.1
theorem foliolaw01_many__Error_eq (a0 : (List (UInt8)) × ((List (Lf.Er)) × (Unit))) : Lf.fnE foliolaw01_many__ErrorCtx foliolaw01_many__ErrorCode foliolaw01_many__ErrorAnn [.val (.st (.pr .str (.pr (.sl .tr) .unit)))] [.str] [.tmp 2] (a0) = foliolaw01_many__Error a0 := by kernel_rfl
noncomputable def foliolaw01_many__ErrorEnt : Nat × Lf.Entry := (88, ⟨[.val (.st (.pr .str (.pr (.sl .tr) .unit)))], [.str], fun z => foliolaw01_many__Error z⟩)
theorem foliolaw01_many__Error_ok : Lf.EntryOk Proofs.Tryd.prog GG 88 foliolaw01_many__ErrorEnt.2 :=
  Lf.fn_ok (c := foliolaw01_many__ErrorCtx) (code := foliolaw01_many__ErrorCode) (an := foliolaw01_many__ErrorAnn) (slots := [.tmp 2]) (fn := Proofs.Tryd.f88) (by kernel_rfl) ⟨Tys_ok, Lf.FnsOk.look .nil, Lf.IpsOk.look .nil, TysEq_ok, TysIm_ok, Lf.IvsOk.look .nil, Lf.FxsOk.look .nil⟩ (by kernel_rfl) (by kernel_rfl) (by kernel_rfl) (by kernel_rfl) (by kernel_rfl) (Nat.le_of_ble_eq_true rfl) (by simp [Lf.Ty.top]) (by simp [Lf.Ty.top]) fun z r h => (foliolaw01_many__Error_eq z).trans h
noncomputable def fault_under__ErrorCtx (self : Lf.Er → Option (List (UInt8))) : Lf.Ctx := ⟨23, Tys, [strconv_ItoaEnt], [], [], [], [], TysEq, [], none, TysIm, [(21, ⟨"Error", [.str], self⟩)]⟩
noncomputable def fault_under__ErrorCode : Go.Code := (Proofs.Tryd.f90.body).getD .skip
def fault_under__ErrorAnn : Lf.Ann := (.seq .no (.seq (.soup 19) .no))
noncomputable def fault_under__ErrorP (self : Lf.Er → Option (List (UInt8))) (a0 : ((List (UInt8)) × ((Int) × (Unit))) × ((Lf.Er) × (Unit))) : Option (List (UInt8)) :=
 ((Lf.cat a0.1.1 ((32 : UInt8) :: ([] : List (UInt8))))).bind fun r1 =>
 ((Go.Fn.strconv_Itoa a0.1.2.1)).bind fun r2 =>
 ((Lf.cat r1 r2)).bind fun r3 =>
 ((Lf.cat r3 ((58 : UInt8) :: ((32 : UInt8) :: ([] : List (UInt8)))))).bind fun r4 =>
 ((self a0.2.1)).bind fun r5 =>
 ((Lf.cat r4 r5)).bind fun r6 =>
 some r6
theorem fault_under__Error_eq (self : Lf.Er → Option (List (UInt8))) (a0 : ((List (UInt8)) × ((Int) × (Unit))) × ((Lf.Er) × (Unit))) : Lf.fnE (fault_under__ErrorCtx self) fault_under__ErrorCode fault_under__ErrorAnn [.val (.ptr (.st (.pr mY0 (.pr .tr .unit))))] [.str] [.tmp 2] (a0) = fault_under__ErrorP self a0 := by kernel_rfl
noncomputable def fault_under__ErrorPEnt (self : Lf.Er → Option (List (UInt8))) : Nat × Lf.Entry := (90, ⟨[.val (.ptr (.st (.pr mY0 (.pr .tr .unit))))], [.str], fun z => fault_under__ErrorP self z⟩)
theorem fault_under__Error_okP (self : Lf.Er → Option (List (UInt8))) (ih : Lf.IvOk Proofs.Tryd.prog GG ⟨"Error", [.str], self⟩) : Lf.EntryOk Proofs.Tryd.prog GG 90 (fault_under__ErrorPEnt self).2 :=
  Lf.fn_ok (c := (fault_under__ErrorCtx self)) (code := fault_under__ErrorCode) (an := fault_under__ErrorAnn) (slots := [.tmp 2]) (fn := Proofs.Tryd.f90) (by kernel_rfl) ⟨Tys_ok, Lf.FnsOk.look (.con strconv_Itoa_ok .nil), Lf.IpsOk.look .nil, TysEq_ok, TysIm_ok, Lf.IvsOk.look (.cons ih .nil), Lf.FxsOk.look .nil⟩ (by kernel_rfl) (by kernel_rfl) (by kernel_rfl) (by kernel_rfl) (by kernel_rfl) (Nat.le_of_ble_eq_true rfl) (by simp [Lf.Ty.top]) (by simp [Lf.Ty.top]) fun z r h => (fault_under__Error_eq self z).trans h
noncomputable def fault_in__ErrorCtx (self : Lf.Er → Option (List (UInt8))) : Lf.Ctx := ⟨16, Tys, [strconv_ItoaEnt], [], [], [], [], TysEq, [], none, TysIm, [(14, ⟨"Error", [.str], self⟩)]⟩
noncomputable def fault_in__ErrorCode : Go.Code := (Proofs.Tryd.f92.body).getD .skip
def fault_in__ErrorAnn : Lf.Ann := (.seq .no (.seq (.soup 12) .no))
noncomputable def fault_in__ErrorP (self : Lf.Er → Option (List (UInt8))) (a0 : (Int) × ((Lf.Er) × (Unit))) : Option (List (UInt8)) :=
 ((Go.Fn.strconv_Itoa a0.1)).bind fun r1 =>
 ((Lf.cat ((105 : UInt8) :: ((110 : UInt8) :: ((32 : UInt8) :: ([] : List (UInt8))))) r1)).bind fun r2 =>
 ((Lf.cat r2 ((58 : UInt8) :: ((32 : UInt8) :: ([] : List (UInt8)))))).bind fun r3 =>
 ((self a0.2.1)).bind fun r4 =>
 ((Lf.cat r3 r4)).bind fun r5 =>
 some r5
theorem fault_in__Error_eq (self : Lf.Er → Option (List (UInt8))) (a0 : (Int) × ((Lf.Er) × (Unit))) : Lf.fnE (fault_in__ErrorCtx self) fault_in__ErrorCode fault_in__ErrorAnn [.val (.ptr (.st (.pr (.int .i64) (.pr .tr .unit))))] [.str] [.tmp 2] (a0) = fault_in__ErrorP self a0 := by kernel_rfl
noncomputable def fault_in__ErrorPEnt (self : Lf.Er → Option (List (UInt8))) : Nat × Lf.Entry := (92, ⟨[.val (.ptr (.st (.pr (.int .i64) (.pr .tr .unit))))], [.str], fun z => fault_in__ErrorP self z⟩)
theorem fault_in__Error_okP (self : Lf.Er → Option (List (UInt8))) (ih : Lf.IvOk Proofs.Tryd.prog GG ⟨"Error", [.str], self⟩) : Lf.EntryOk Proofs.Tryd.prog GG 92 (fault_in__ErrorPEnt self).2 :=
  Lf.fn_ok (c := (fault_in__ErrorCtx self)) (code := fault_in__ErrorCode) (an := fault_in__ErrorAnn) (slots := [.tmp 2]) (fn := Proofs.Tryd.f92) (by kernel_rfl) ⟨Tys_ok, Lf.FnsOk.look (.con strconv_Itoa_ok .nil), Lf.IpsOk.look .nil, TysEq_ok, TysIm_ok, Lf.IvsOk.look (.cons ih .nil), Lf.FxsOk.look .nil⟩ (by kernel_rfl) (by kernel_rfl) (by kernel_rfl) (by kernel_rfl) (by kernel_rfl) (Nat.le_of_ble_eq_true rfl) (by simp [Lf.Ty.top]) (by simp [Lf.Ty.top]) fun z r h => (fault_in__Error_eq self z).trans h
noncomputable def fault_joined__ErrorCtx (self : Lf.Er → Option (List (UInt8))) : Lf.Ctx := ⟨23, Tys, [strings_JoinEnt], [3, 15], [], [(3, (.rw 9 .str)), (15, (.rw 9 .str))], [], TysEq, [], none, TysIm, [(17, ⟨"Error", [.str], self⟩)]⟩
noncomputable def fault_joined__ErrorCode : Go.Code := (Proofs.Tryd.f94.body).getD .skip
def fault_joined__ErrorAnn : Lf.Ann := (.seq .no (.seq .no (.seq (.seq .no (.loop ⟨[9, 10], [], [(11, (.int .i64)), (3, (.rw 9 .str))], [], []⟩ (.one (.ext 0) ⟨[], [], [(3, (.rw 9 .str))], [], []⟩) .no)) .no)))
noncomputable def fault_joined__ErrorP (self : Lf.Er → Option (List (UInt8))) (a0 : (List (Lf.Er)) × (Unit)) : Option (List (UInt8)) :=
 (Lf.loopC (σ := (Int) × (List (List (UInt8)))) (κ := List (List (UInt8))) (fun z1 =>
     bif (decide (z1.1 < (((List.length a0.1) : Nat) : Int))) then ((Lf.idx a0.1 z1.1)).bind fun r2 =>
     ((self r2)).bind fun r3 =>
     ((Lf.app (16 : Nat) z1.2 (r3 :: ([] : List (List (UInt8)))))).bind fun r4 =>
     some (.inl ((IntKind.wrap .i64 (z1.1 + (1 : Int))), r4))
     else some (.inr z1.2)) ((0 : Int), ([] : List (List (UInt8)))) : Option (List (List (UInt8)))).bind fun r5 =>
 ((Go.Fn.strings_Join (r5, ((59 : UInt8) :: ((32 : UInt8) :: ([] : List (UInt8))))))).bind fun r6 =>
 some r6
theorem fault_joined__Error_eq (self : Lf.Er → Option (List (UInt8))) (a0 : (List (Lf.Er)) × (Unit)) : Lf.fnE (fault_joined__ErrorCtx self) fault_joined__ErrorCode fault_joined__ErrorAnn [.val (.ptr (.st (.pr (.sl .tr) .unit)))] [.str] [.tmp 2] (a0) = fault_joined__ErrorP self a0 := by kernel_rfl
noncomputable def fault_joined__ErrorPEnt (self : Lf.Er → Option (List (UInt8))) : Nat × Lf.Entry := (94, ⟨[.val (.ptr (.st (.pr (.sl .tr) .unit)))], [.str], fun z => fault_joined__ErrorP self z⟩)
theorem fault_joined__Error_okP (self : Lf.Er → Option (List (UInt8))) (ih : Lf.IvOk Proofs.Tryd.prog GG ⟨"Error", [.str], self⟩) : Lf.EntryOk Proofs.Tryd.prog GG 94 (fault_joined__ErrorPEnt self).2 :=
  Lf.fn_ok (c := (fault_joined__ErrorCtx self)) (code := fault_joined__ErrorCode) (an := fault_joined__ErrorAnn) (slots := [.tmp 2]) (fn := Proofs.Tryd.f94) (by kernel_rfl) ⟨Tys_ok, Lf.FnsOk.look (.con strings_Join_ok .nil), Lf.IpsOk.look .nil, TysEq_ok, TysIm_ok, Lf.IvsOk.look (.cons ih .nil), Lf.FxsOk.look .nil⟩ (by kernel_rfl) (by kernel_rfl) (by kernel_rfl) (by kernel_rfl) (by kernel_rfl) (Nat.le_of_ble_eq_true rfl) (by simp [Lf.Ty.top]) (by simp [Lf.Ty.top]) fun z r h => (fault_joined__Error_eq self z).trans h
noncomputable def fault_Error__FaultCtx : Lf.Ctx := ⟨11, Tys, [fault_Error__isEnt], [], [], [], [], TysEq, [], none, TysIm, []⟩
noncomputable def fault_Error__FaultCode : Go.Code := (Proofs.Tryd.f23.body).getD .skip
def fault_Error__FaultAnn : Lf.Ann := .no
noncomputable def fault_Error__Fault (a0 : Option ((Int) × (((Int) × mT4) × (Unit)))) : Option ((Int) × mT4) :=
 ((Go.Fn.fault_Error__is a0)).bind fun r1 =>
 bif (!r1) then some ((10 : Int), ((0 : Int), ((0 : Int), ((0 : Int), (([] : List (UInt8)), (([] : List ((List (UInt8)) × ((Int) × (Unit)))), ()))))))
 else (a0).bind fun r2 =>
 some r2.2.1
theorem fault_Error__Fault_eq (a0 : Option ((Int) × (((Int) × mT4) × (Unit)))) : Lf.fnE fault_Error__FaultCtx fault_Error__FaultCode fault_Error__FaultAnn [.val (.op (.st mY7))] [(.st mY6)] [.cell 2 43] (a0) = fault_Error__Fault a0 := by kernel_rfl
noncomputable def fault_Error__FaultEnt : Nat × Lf.Entry := (23, ⟨[.val (.op (.st mY7))], [(.st mY6)], fun z => fault_Error__Fault z⟩)
theorem fault_Error__Fault_ok : Lf.EntryOk Proofs.Tryd.prog GG 23 fault_Error__FaultEnt.2 :=
  Lf.fn_ok (c := fault_Error__FaultCtx) (code := fault_Error__FaultCode) (an := fault_Error__FaultAnn) (slots := [.cell 2 43]) (fn := Proofs.Tryd.f23) (by kernel_rfl) ⟨Tys_ok, Lf.FnsOk.look (.con fault_Error__is_ok .nil), Lf.IpsOk.look .nil, TysEq_ok, TysIm_ok, Lf.IvsOk.look .nil, Lf.FxsOk.look .nil⟩ (by kernel_rfl) (by kernel_rfl) (by kernel_rfl) (by kernel_rfl) (by kernel_rfl) (Nat.le_of_ble_eq_true rfl) (by simp [Lf.Ty.top]) (by simp [Lf.Ty.top]) fun z r h => (fault_Error__Fault_eq z).trans h
end Go.Fn
/- The methods that an error's type picks. -/
namespace Go.Fn
open Go Go.Lf Go.Eng Go.RowKit Go.Proofs
abbrev UndR : Ty := .pr (.st (.pr .str (.pr (.int .i64) .unit))) (.pr .tr .unit)
abbrev InR : Ty := .pr (.int .i64) (.pr .tr .unit)
abbrev JoiR : Ty := .pr (.sl .tr) .unit
abbrev PlaR : Ty := .pr .str .unit
abbrev WraR : Ty := .pr .str (.pr .tr .unit)
abbrev ManR : Ty := .pr .str (.pr (.sl .tr) .unit)
abbrev ErrR : Ty := .pr (.int .i64) (.pr FltT .unit)
noncomputable def unwR : List (Mr .tr) := [⟨78, false, UndR, 91, fault_under__Unwrap⟩, ⟨81, false, InR, 93, fault_in__Unwrap⟩, ⟨74, true, WraR, 87, foliolaw01_wrapped__Unwrap⟩]
theorem unwR_ok : ∀ r ∈ unwR, MrOk Tryd.prog GG "Unwrap" r := by
 intro r hr
 simp only [unwR, List.mem_cons, List.not_mem_nil, or_false] at hr
 rcases hr with rfl | rfl | rfl
 ·exact .ptr fault_under__Unwrap_ok (fun p w => by kernel_rfl)
 ·exact .ptr fault_in__Unwrap_ok (fun p w => by kernel_rfl)
 ·exact .box foliolaw01_wrapped__Unwrap_ok (fun p w => by kernel_rfl)
noncomputable def mUnwrap (e : Er) : Option Er := ivF unwR e
noncomputable def mUnwrapIv : Iv := ⟨"Unwrap", [.tr], fun e => mUnwrap e⟩
theorem mUnwrap_iv : IvOk Tryd.prog GG mUnwrapIv := iv_of unwR unwR_ok
noncomputable def unsR : List (Mr (.sl .tr)) := [⟨84, false, JoiR, 95, fault_joined__Unwrap⟩, ⟨76, true, ManR, 89, foliolaw01_many__Unwrap⟩]
theorem unsR_ok : ∀ r ∈ unsR, MrOk Tryd.prog GG "Unwrap" r := by
 intro r hr
 simp only [unsR, List.mem_cons, List.not_mem_nil, or_false] at hr
 rcases hr with rfl | rfl
 ·exact .ptr fault_joined__Unwrap_ok (fun p w => by kernel_rfl)
 ·exact .box foliolaw01_many__Unwrap_ok (fun p w => by kernel_rfl)
noncomputable def mUnwraps (e : Er) : Option (List Er) := ivF unsR e
noncomputable def mUnwrapsIv : Iv := ⟨"Unwrap", [.sl .tr], fun e => mUnwraps e⟩
theorem mUnwraps_iv : IvOk Tryd.prog GG mUnwrapsIv := iv_of unsR unsR_ok
noncomputable def errR (self : Er → Option (List UInt8)) : List (Mr .str) := [⟨37, false, ErrR, 34, fault_Error__Error⟩, ⟨78, false, UndR, 90, fault_under__ErrorP self⟩, ⟨81, false, InR, 92, fault_in__ErrorP self⟩, ⟨84, false, JoiR, 94, fault_joined__ErrorP self⟩,
 ⟨72, true, PlaR, 85, foliolaw01_plain__Error⟩, ⟨74, true, WraR, 86, foliolaw01_wrapped__Error⟩, ⟨76, true, ManR, 88, foliolaw01_many__Error⟩]
theorem errR_ok {self : Er → Option (List UInt8)} (ih : IvOk Tryd.prog GG ⟨"Error", [.str], self⟩) : ∀ r ∈ errR self, MrOk Tryd.prog GG "Error" r := by
 intro r hr
 simp only [errR, List.mem_cons, List.not_mem_nil, or_false] at hr
 rcases hr with rfl | rfl | rfl | rfl | rfl | rfl | rfl
 ·exact .ptr fault_Error__Error_ok (fun p w => by kernel_rfl)
 ·exact .ptr (fault_under__Error_okP self ih) (fun p w => by kernel_rfl)
 ·exact .ptr (fault_in__Error_okP self ih) (fun p w => by kernel_rfl)
 ·exact .ptr (fault_joined__Error_okP self ih) (fun p w => by kernel_rfl)
 ·exact .box foliolaw01_plain__Error_ok (fun p w => by kernel_rfl)
 ·exact .box foliolaw01_wrapped__Error_ok (fun p w => by kernel_rfl)
 ·exact .box foliolaw01_many__Error_ok (fun p w => by kernel_rfl)
noncomputable def errN : Nat → Er → Option (List UInt8)
 | 0, _ => none
 | n + 1, e => ivF (errR (errN n)) e
theorem errN_ok : ∀ n, IvOk Tryd.prog GG ⟨"Error", [.str], errN n⟩
 | 0 => ⟨fun e r h => by cases h⟩
 | n + 1 => iv_of (errR (errN n)) (errR_ok (errN_ok n))
noncomputable def mError (e : Er) : Option (List UInt8) := errN 400 e
noncomputable def mErrorIv : Iv := ⟨"Error", [.str], fun e => mError e⟩
theorem mError_iv : IvOk Tryd.prog GG mErrorIv := errN_ok 400
end Go.Fn
/-
  Loops over lists, plainly.
-/
namespace Go.Lf
open Go
theorem wrap64 {x : Int} (h0 : -9223372036854775808 ≤ x) (h1 : x ≤ 9223372036854775807) : IntKind.wrap .i64 x = x := by
 simp only [IntKind.wrap]
 simp [IntKind.bits, IntKind.signed]
 omega
theorem wrapS {n : Nat} (h : n < 9223372036854775807) : IntKind.wrap .i64 ((n : Int) + 1) = ((n + 1 : Nat) : Int) := by
 rw [wrap64 (by omega) (by omega)]; omega
theorem idx_nat {α : Type} (l : List α) (i : Nat) : idx l (i : Int) = l[i]? := by
 unfold idx
 rw [if_pos (by omega)]; rfl
theorem app_of {α : Type} {b : Nat} {l m : List α} (h : (l.length + m.length) * b ≤ 140737488355328) : app b l m = some (l ++ m) := if_pos h
section
variable {α σ κ : Type}
end
end Go.Lf
/- Chapter 1, plainly: errors as trees; what an error says. -/
namespace Go.Lf
open Go
def OkP {α : Type} (may : Prop) (x : Option α) (Q : α → Prop) : Prop := (∃ k, x = some k ∧ Q k) ∨ (may ∧ x = none)
section
variable {α β σ κ : Type} {may may' : Prop}
theorem OkP.some {x : α} {Q : α → Prop} (h : Q x) : OkP may (some x) Q := .inl ⟨x, rfl, h⟩
theorem OkP.of {x : Option α} {k : α} {Q : α → Prop} (hx : x = Option.some k) (h : Q k) : OkP may x Q := .inl ⟨k, hx, h⟩
theorem OkP.bind {x : Option α} {f : α → Option β} {Q : α → Prop} {R : β → Prop} (h : OkP may x Q) (hf : ∀ a, Q a → OkP may (f a) R) : OkP may (x.bind f) R := by
 rcases h with ⟨k, rfl, hk⟩ | ⟨hm, rfl⟩
 ·exact hf k hk
 ·exact .inr ⟨hm, rfl⟩
theorem OkP.imp {x : Option α} {Q R : α → Prop} (h : OkP may x Q) (hm : may → may') (hf : ∀ a, Q a → R a) : OkP may' x R := by
 rcases h with ⟨k, rfl, hk⟩ | ⟨h, rfl⟩
 ·exact .inl ⟨k, rfl, hf k hk⟩
 ·exact .inr ⟨hm h, rfl⟩
theorem OkP.eq {x : Option α} {k : α} (h : OkP False x (· = k)) : x = Option.some k := by
 rcases h with ⟨_, rfl, rfl⟩ | ⟨h, _⟩
 ·rfl
 ·exact h.elim
theorem OkP.get {x : Option α} {Q : α → Prop} (h : OkP False x Q) : ∃ k, x = Option.some k ∧ Q k := by
 rcases h with h | ⟨h, _⟩
 ·exact h
 ·exact h.elim
theorem OkP.loop {B : σ → Option (σ ⊕ κ)} {Q : κ → Prop} (I : Nat → σ → Prop) (h : ∀ n z, I n z → OkP may (B z) fun d => match d with | .inl z' => ∃ m, m < n ∧ I m z' | .inr k => Q k) : ∀ (n : Nat) (z : σ), I n z → OkP may (loopC B z) Q := by
 intro n
 induction n using Nat.strongRecOn with
 | ind n ih =>
  intro z hz
  rw [loopC_step]
  rcases h n z hz with ⟨d, hd, hq⟩ | ⟨hm, hd⟩
  ·rw [hd]
   cases d with
   | inl z' =>
    obtain ⟨m, hm, hi⟩ := hq
    exact ih m hm z' hi
   | inr k => exact .inl ⟨k, rfl, hq⟩
  ·rw [hd]
   exact .inr ⟨hm, rfl⟩
theorem OkP.range {α : Type} {B : Int × σ → Option ((Int × σ) ⊕ κ)} {Q : κ → Prop} (l : List α) (I : Nat → σ → Prop) (hstep : ∀ (i : Nat) x s, l[i]? = Option.some x → I i s → OkP may (B ((i : Int), s)) fun d => match d with | .inl z => z.1 = ((i + 1 : Nat) : Int) ∧ I (i + 1) z.2 | .inr k => Q k)
  (hend : ∀ s, I l.length s → OkP may (B ((l.length : Int), s)) fun d => match d with | .inl _ => False | .inr k => Q k) {s : σ} (h0 : I 0 s) : OkP may (loopC B ((0 : Int), s)) Q := by
 refine OkP.loop (fun n z => ∃ i : Nat, i + n = l.length ∧ z.1 = (i : Int) ∧ I i z.2) (fun n z hz => ?_) l.length (0, s) ⟨0, by omega, rfl, h0⟩
 obtain ⟨i, hi, hz1, hz2⟩ := hz
 obtain ⟨z1, z2⟩ := z
 simp only at hz1 hz2
 subst hz1
 by_cases hlt : i < l.length
 ·refine (hstep i l[i] z2 (List.getElem?_eq_getElem hlt) hz2).imp id fun d hd => ?_
  cases d with
  | inl z => exact ⟨n - 1, by omega, i + 1, by omega, hd.1, hd.2⟩
  | inr k => exact hd
 ·have : i = l.length := by omega
  subst this
  refine (hend z2 hz2).imp id fun d hd => ?_
  cases d with
  | inl z => exact hd.elim
  | inr k => exact hd
theorem supC_ok {g : Nat → Option α} {k : α} (n : Nat) (h : ∀ m, OkP (m ≤ n) (g m) (· = k)) : supC g = Option.some k := by
 have h1 : OkP False (g (n + 1)) (· = k) := (h (n + 1)).imp (fun h => by omega) fun _ h => h
 refine supC_of h1.eq fun m s hs => ?_
 rcases h m with ⟨k', hk, rfl⟩ | ⟨_, hk⟩
 ·rw [hs] at hk; injection hk
 ·rw [hs] at hk; cases hk
end
end Go.Lf
namespace Go.Fn
open Go Go.Lf Go.Eng Go.Proofs
inductive Vw where
 | nil
 | new (c s l o : Int) (w : List UInt8)
 | und (layer : List UInt8) (what : Int) (k : Vw)
 | inn (src : Int) (k : Vw)
 | join (ks : List Vw)
 | plain (t : List UInt8)
 | wrap (t : List UInt8) (k : Vw)
 | many (t : List UInt8) (ks : List Vw)
def Vw.isNil : Vw → Bool
 | .nil => true
 | _ => false
mutual
def enc : Vw → Er
 | .nil => .nil
 | .new c s l o w => .nd 37 false [.v (.int .i64 1), .v (.int .i64 c), .v (.int .i64 s), .v (.int .i64 l), .v (.int .i64 o), .v (Eng.str w), .e] .no
 | .und la wh k => .nd 78 false [.v (Eng.str la), .v (.int .i64 wh)] (.one (enc k))
 | .inn s k => .nd 81 false [.v (.int .i64 s)] (.one (enc k))
 | .join ks => .nd 84 false [] (.many (encs ks))
 | .plain t => .nd 72 true [.v (Eng.str t)] .no
 | .wrap t k => .nd 74 true [.v (Eng.str t)] (.one (enc k))
 | .many t ks => .nd 76 true [.v (Eng.str t)] (.many (encs ks))
def encs : List Vw → List Er
 | [] => []
 | v :: r => enc v :: encs r
end
theorem encs_map : ∀ l, encs l = l.map enc
 | [] => rfl
 | v :: r => by rw [encs, encs_map r, List.map_cons]
theorem enc_nil (v : Vw) : (enc v).isNil = v.isNil := by cases v <;> rfl
mutual
def vtext : Vw → List UInt8
 | .nil => []
 | .new c s l o w => errText c s l o w
 | .und la wh k => la ++ [32] ++ Lib.itoa wh ++ [58, 32] ++ vtext k
 | .inn s k => [105, 110, 32] ++ Lib.itoa s ++ [58, 32] ++ vtext k
 | .join ks => joinL [59, 32] (vtexts ks)
 | .plain t => t
 | .wrap t _ => t
 | .many t _ => t
def vtexts : List Vw → List (List UInt8)
 | [] => []
 | v :: r => vtext v :: vtexts r
end
mutual
def Good : Nat → Nat → Vw → Prop
 | _, _, .nil => True
 | d, b, .new c s l o w => 0 < d ∧ (I64 c ∧ I64 s ∧ I64 l ∧ I64 o) ∧ 120 + w.length ≤ b
 | d, b, .und la wh k => 0 < d ∧ I64 wh ∧ 120 + la.length ≤ b ∧ k.isNil = false ∧ Good (d - 1) (b - (120 + la.length)) k
 | d, b, .inn s k => 0 < d ∧ I64 s ∧ 120 ≤ b ∧ k.isNil = false ∧ Good (d - 1) (b - 120) k
 | d, b, .join ks => 0 < d ∧ 120 ≤ b ∧ Goods (d - 1) (b - 120) ks
 | d, b, .plain t => 0 < d ∧ 120 + t.length ≤ b
 | d, b, .wrap t _ => 0 < d ∧ 120 + t.length ≤ b
 | d, b, .many t _ => 0 < d ∧ 120 + t.length ≤ b
def Goods : Nat → Nat → List Vw → Prop
 | _, _, [] => True
 | d, b, v :: r => v.isNil = false ∧ ∃ c, c + 2 ≤ b ∧ Good d c v ∧ Goods d (b - (c + 2)) r
end
theorem errText_le {c s l o : Int} (w : List UInt8) (hc : I64 c) (hs : I64 s) (hl : I64 l) (ho : I64 o) : (errText c s l o w).length ≤ 120 + w.length := by
 have h1 := Lib.itoa_length_le c hc.1 hc.2
 have h2 := Lib.itoa_length_le s hs.1 hs.2
 have h3 := Lib.itoa_length_le l hl.1 hl.2
 have h4 := Lib.itoa_length_le o ho.1 ho.2
 unfold errText
 split <;> split <;> simp <;> omega
mutual
theorem vtext_le : ∀ (d b : Nat) (v : Vw), Good d b v → (vtext v).length ≤ b
 | _, _, .nil, _ => by simp [vtext]
 | d, b, .new c s l o w, h => by
  obtain ⟨_, ⟨h1, h2, h3, h4⟩, h5⟩ := h
  exact Nat.le_trans (errText_le w h1 h2 h3 h4) h5
 | d, b, .und la wh k, h => by
  obtain ⟨_, h1, h2, _, h3⟩ := h
  have h4 := vtext_le _ _ k h3
  have h5 := Lib.itoa_length_le wh h1.1 h1.2
  simp only [vtext, List.length_append, List.length_cons, List.length_nil]
  omega
 | d, b, .inn s k, h => by
  obtain ⟨_, h1, h2, _, h3⟩ := h
  have h4 := vtext_le _ _ k h3
  have h5 := Lib.itoa_length_le s h1.1 h1.2
  simp only [vtext, List.length_append, List.length_cons, List.length_nil]
  omega
 | d, b, .join ks, h => by
  obtain ⟨_, h1, h2⟩ := h
  have h4 := vtexts_le _ _ ks h2
  simp only [vtext]
  generalize vtexts ks = l at h4
  cases l with
  | nil => simp [joinL]
  | cons x r =>
   simp only [joinT, List.length_append, List.length_cons, List.length_nil] at h4
   simp only [joinL, List.length_append]
   omega
 | d, b, .plain t, h => by have := h.2; simp only [vtext]; omega
 | d, b, .wrap t _, h => by have := h.2; simp only [vtext]; omega
 | d, b, .many t _, h => by have := h.2; simp only [vtext]; omega
theorem vtexts_le : ∀ (d b : Nat) (l : List Vw), Goods d b l → (joinT [59, 32] (vtexts l)).length ≤ b ∧ l.length ≤ b
 | _, _, [], _ => by simp [vtexts, joinT]
 | d, b, v :: r, h => by
  obtain ⟨_, c, h1, h2, h3⟩ := h
  have h4 := vtext_le _ _ v h2
  have h5 := vtexts_le _ _ r h3
  simp only [vtexts, joinT, List.length_append, List.length_cons, List.length_nil]
  omega
end
end Go.Fn
/- errors.Is, walked: what is within is gone through. -/
namespace Go.Fn
open Go Go.Lf Go.Eng Go.RowKit Go.Proofs Go.Extern Go.Extern.Stop Go.Stop
def anyN (f : Er → Option Bool) : List Er → Option Bool
 | [] => some false
 | e :: l => (f e).bind fun b => bif b then some true else anyN f l
noncomputable def isN : Nat → Int → Er → Option Bool
 | 0, _, _ => none
 | _ + 1, _, .nil => some false
 | n + 1, c, .nd t bx cs k =>
  bif Nat.beq t 37 && !bx then (match unEr (.st ErrR) cs k with | some y => some (decide ((y.1 : Int) = 1) && decide ((y.2.1.1 : Int) = c)) | none => none)
  else bif (Nat.beq t 78 && !bx) || ((Nat.beq t 81 && !bx) || (Nat.beq t 74 && bx)) then (mUnwrap (.nd t bx cs k)).bind (isN n c)
  else bif (Nat.beq t 84 && !bx) || (Nat.beq t 76 && bx) then (mUnwraps (.nd t bx cs k)).bind fun l => bif Nat.ble l.length 1048576 then anyN (isN n c) l else none
  else bif Nat.beq t 72 then some false else none
theorem exists_least {p : Nat → Prop} : ∀ k, p k → ∃ m, p m ∧ ∀ j, p j → m ≤ j
 | k => fun hk => by
  by_cases h : ∃ j, j < k ∧ p j
  ·obtain ⟨j, hj, hp⟩ := h
   exact exists_least j hp
  ·exact ⟨k, hk, fun j hj => by
    rcases Nat.lt_or_ge j k with h1 | h1
    ·exact absurd ⟨j, h1, hj⟩ h
    ·exact h1⟩
open Classical in
noncomputable def leastK (p : Nat → Prop) : Nat := if h : ∃ m, p m ∧ ∀ j, p j → m ≤ j then Classical.choose h else 0
theorem leastK_spec {p : Nat → Prop} (h : ∃ k, p k) : p (leastK p) ∧ ∀ j, p j → leastK p ≤ j := by
 obtain ⟨k, hk⟩ := h
 have h := exists_least k hk
 unfold leastK
 rw [dif_pos h]
 exact Classical.choose_spec h
structure TgtR (φ : Phi) (c : Int) (ta : Addr) (T : Er) : Prop where
 er : Lf.ErR φ T (.iface 37 (.pointer (some ta)))
 asq : ∃ y : ErrS.den, asP 37 ErrS T = some (some y) ∧ (y.1 : Int) = 1 ∧ (y.2.1.1 : Int) = c
theorem TgtR.mono {φ ψ : Phi} {c : Int} {ta : Addr} {T : Er} (h : TgtR φ c ta T) (hle : φ.le ψ) : TgtR ψ c ta T := ⟨Lf.ErR.mono hle h.er, h.asq⟩
theorem TgtR.here {φ : Phi} {c : Int} {ta : Addr} {T : Er} (h : TgtR φ c ta T) : ∃ (y : ErrS.den) (cells : List Value), Rp φ ErrS y cells [] ∧ PhiAt φ ta cells ∧ φ.b ta.block ∧ (y.1 : Int) = 1 ∧ (y.2.1.1 : Int) = c := by
 obtain ⟨he, y, ha, h1, h2⟩ := h
 cases T with
 | nil => cases ha
 | nd i bx cs k =>
  obtain ⟨p, us, ws, e1, e2, e3, e4⟩ := he
  injection e1 with e1 e5
  subst e1 e5
  simp only [asP, Nat.beq_refl, cond_true] at ha
  cases bx with
  | true => cases ha
  | false =>
   obtain ⟨ad, e5, e6, e7⟩ := e4
   injection e5 with e5
   injection e5 with e5
   subst e5
   cases hu : unEr ErrS cs k with
   | none => rw [hu] at ha; cases ha
   | some y' =>
    rw [hu] at ha
    have ha : y' = y := by injection ha with ha; injection ha with ha
    subst ha
    exact ⟨y', _, unEr_ok ErrS cs k y' us ws hu e2 e3, e6, e7, h1, h2⟩
theorem err_cells {φ : Phi} {y : ErrS.den} {cells : List Value} (h : Rp φ ErrS y cells []) : cells[0]? = some (.int .i64 y.1) ∧ cells[1]? = some (.int .i64 y.2.1.1) := by
 obtain ⟨_, _, _, _, rfl, _, ⟨rfl, _⟩, ⟨_, _, _, _, rfl, _, ⟨_, _, _, _, rfl, _, ⟨rfl, _⟩, _⟩, _⟩⟩ := h
 exact ⟨rfl, rfl⟩
theorem err_same {φ : Phi} {y y' : ErrS.den} {cells cells' : List Value} {ad : Addr} (h : Rp φ ErrS y cells []) (h' : Rp φ ErrS y' cells' []) (hp : PhiAt φ ad cells) (hp' : PhiAt φ ad cells') : (y.1 : Int) = y'.1 ∧ (y.2.1.1 : Int) = y'.2.1.1 := by
 obtain ⟨a0, a1⟩ := err_cells h
 obtain ⟨b0, b1⟩ := err_cells h'
 have e0 := (hp 0 _ a0).symm.trans (hp' 0 _ b0)
 have e1 := (hp 1 _ a1).symm.trans (hp' 1 _ b1)
 injection e0 with e0
 injection e0 with _ e0
 injection e1 with e1
 injection e1 with _ e1
 exact ⟨e0, e1⟩
def RdI (C : Cx) (φ0 : Phi) (n : Nat) (c : Int) (b : Bool) (u : Value) (w : World) (m : Nat) : Prop :=
 m ≤ n ∧ ∃ φ e, φ0.le φ ∧ isN m c e = some b ∧ ErR φ e u ∧ Hb C w [] (Inv GG φ)
theorem hb_back {C : Cx} {w w' : World} {hs : List Chunk} {I F : World → Prop} (hb : Hb C w [] I) (h : Hb (C.sub w [] []) w' hs F) : Hb C w' hs F := by
 have := Hb.back (ks := []) (ds := []) hb h
 rw [List.append_nil] at this
 exact this.imp fun _ h => h.2
theorem ent_one {P : Program} {G : World → Prop} {f : FuncId} {ps : List Par} {t : Ty} {F : prodT (ps.map Par.ty) → Option (prodT ([t] ++ outs ps))} (_ : outs ps = []) (he : EntryOk P G f ⟨ps, [t], F⟩) {z : prodT (ps.map Par.ty)} {r : prodT ([t] ++ outs ps)} (hz : F z = some r) {C : Cx} {φ : Phi} {w : World} {vals : List Value}
  (ha : ArgsR φ ps z vals [] []) (hb : Hb C w [] (Inv G φ)) : Calls P f vals.toArray w fun x w' => ∃ vv φ' h1, x = .returned vv ∧ φ.le φ' ∧ Hb C w' h1 (Inv G φ') ∧ ResR φ' ((unProd ([t] ++ outs ps) r).take 1) vv h1 := by
 refine (he.ok z r hz (C.sub w [] []) φ vals [] [] ha (Hb.pass (ks := []) (ds := []) hb)).mono fun x w' hx => ?_
 obtain ⟨v, φ', h1, h2, k1, k2, k3, k4, k5⟩ := hx
 have k5' : ObsR φ' [] ((unProd ([t] ++ outs ps) r).drop 1) h2 := k5
 generalize (unProd ([t] ++ outs ps) r).drop 1 = L at k5'
 cases k5'
 rw [List.append_nil] at k3
 exact ⟨v, φ', h1, k1, k2, hb_back hb k3, k4⟩
theorem res_one {φ : Phi} {t : Ty} {x : t.den} {v : Value} {h : List Chunk} (hr : ResR φ [⟨t, x⟩] v h) : ∃ cs, v = sv t cs ∧ Rp φ t x cs h := by
 obtain ⟨vs, ht, rfl⟩ := hr
 cases ht with
 | cons h1 h2 h3 =>
  cases h3
  rw [List.append_nil]
  exact ⟨_, rfl, h2⟩
theorem is84_call {C : Cx} {φ : Phi} {w : World} {ad : Addr} {y : ErrS.den} {cells : List Value} {T : Er} {v : Value} {r : Bool} (hr : Rp φ ErrS y cells []) (hp : PhiAt φ ad cells) (hT : Lf.ErR φ T v) (hF : fault_Error__Is y T = some r) (hb : Hb C w [] (Inv GG φ)) :
  Calls Tryd.prog 84 #[.pointer (some ad), v] w fun x w' => x = .returned (.bool r) ∧ ∃ φ', φ.le φ' ∧ Hb C w' [] (Inv GG φ') := by
 refine (ent_one (ps := [.val (.ptr ErrS), .val .tr]) (t := .bool) (z := ((y, T) : ErrS.den × Er)) (r := r) rfl fault_Error__Is_ok hF
  (ArgsR.val (t := .ptr ErrS) (r := [.val .tr]) (cs := [.pointer (some ad)]) (h := []) (hs := []) rfl ⟨ad, _, rfl, hr, hp, rfl⟩ (ArgsR.val (t := .tr) (r := []) (cs := [v]) (h := []) (hs := []) rfl ⟨⟨v, rfl, hT⟩, rfl⟩ .nil)) hb).mono ?_
 rintro x w' ⟨vv, φ', h1, rfl, hle, hb', hres⟩
 obtain ⟨cs, rfl, h2⟩ := res_one (t := .bool) (x := r) hres
 obtain ⟨rfl, rfl⟩ := h2
 exact ⟨rfl, φ', hle, hb'⟩
theorem eis_nil0 (v : Value) (w : World) : (binOp .eql 28 .nilIface (.iface 37 v)).run Tryd.prog w = .ok (.bool false) w := run_eql_iface_nil_left (P := Tryd.prog) w 37 v Tryd.underlying28
theorem eis_nil1 (xT : TypeId) (w : World) : (Instr.typeAssert .nilIface xT 127 true).run Tryd.prog w = .ok (.tuple #[.nilIface, .bool false]) w := by kernel_rfl
theorem eis_nil2 (xT : TypeId) (w : World) : (Instr.typeAssert .nilIface xT 121 true).run Tryd.prog w = .ok (.tuple #[.nilIface, .bool false]) w := by kernel_rfl
theorem eis_nil3 (xT : TypeId) (w : World) : (Instr.typeAssert .nilIface xT 123 true).run Tryd.prog w = .ok (.tuple #[.nilIface, .bool false]) w := by kernel_rfl
theorem unw_call {C : Cx} {φ : Phi} {w : World} {t f : Nat} {p : Value} {e e2 : Er} (hk : ∀ w, (callMethod (.iface t p) "Unwrap" #[]).run Tryd.prog w = .ok (.enter f #[p]) w) (hu : Lf.ErR φ e (.iface t p)) (he : mUnwrap e = some e2) (hb : Hb C w [] (Inv GG φ)) :
  Calls Tryd.prog f #[p] w fun x w' => ∃ v φ', x = .returned v ∧ φ.le φ' ∧ Hb C w' [] (Inv GG φ') ∧ Lf.ErR φ' e2 v := by
 obtain ⟨f2, rc, h1, h2⟩ := mUnwrap_iv.ok e e2 he (C.sub w [] []) φ _ hu (Hb.pass (ks := []) (ds := []) hb)
 have h3 := (hk w).symm.trans (h1 w)
 injection h3 with h3
 injection h3 with h3 h4
 injection h4 with h4
 injection h4 with h4
 subst h3 h4
 refine h2.mono ?_
 rintro x w' ⟨vv, φ', h1, rfl, hle, hb', hres⟩
 obtain ⟨cs, rfl, h2⟩ := res_one (t := .tr) (x := e2) hres
 obtain ⟨⟨v, rfl, hv⟩, rfl⟩ := h2
 exact ⟨_, φ', rfl, hle, hb_back hb hb', hv⟩
theorem uns_call {C : Cx} {φ : Phi} {w : World} {t f : Nat} {p : Value} {e : Er} {l : List Er} (hk : ∀ w, (callMethod (.iface t p) "Unwrap" #[]).run Tryd.prog w = .ok (.enter f #[p]) w) (hu : Lf.ErR φ e (.iface t p)) (he : mUnwraps e = some l) (hb : Hb C w [] (Inv GG φ)) :
  Calls Tryd.prog f #[p] w fun x w' => ∃ A cap us φ', x = .returned (.slice A l.length cap) ∧ φ.le φ' ∧ Hb C w' [] (Inv GG φ') ∧ ErsR φ' l us ∧ RdPhi φ' A l.length us := by
 obtain ⟨f2, rc, h1, h2⟩ := mUnwraps_iv.ok e l he (C.sub w [] []) φ _ hu (Hb.pass (ks := []) (ds := []) hb)
 have h3 := (hk w).symm.trans (h1 w)
 injection h3 with h3
 injection h3 with h3 h4
 injection h4 with h4
 injection h4 with h4
 subst h3 h4
 refine h2.mono ?_
 rintro x w' ⟨vv, φ', h1, rfl, hle, hb', hres⟩
 obtain ⟨cs, rfl, h2⟩ := res_one (t := .sl .tr) (x := l) hres
 obtain ⟨A, cap, css, rfl, hlc, hall, hrd, rfl⟩ := h2
 exact ⟨A, cap, _, φ', rfl, hle, hb_back hb hb', ers_of hall, hrd⟩
theorem ers_get {φ : Phi} : ∀ {l : List Er} {us : List Value} {k : Nat} {e : Er}, ErsR φ l us → l[k]? = some e → ∃ u, us[k]? = some u ∧ Lf.ErR φ e u
 | [], _, _, _, _, h => by cases h
 | x :: l, us, k, e, h, hk => by
  obtain ⟨u, r, rfl, h1, h2⟩ := h
  cases k with
  | zero => injection hk with hk; subst hk; exact ⟨u, rfl, h1⟩
  | succ k =>
   obtain ⟨v, g1, g2⟩ := ers_get (l := l) (us := r) (k := k) (e := e) h2 (by simpa using hk)
   exact ⟨v, by simpa using g1, g2⟩
theorem anyN_drop {f : Er → Option Bool} {l : List Er} {k : Nat} {e : Er} {b : Bool} (h : anyN f (l.drop k) = some b) (he : l[k]? = some e) : ∃ b1, f e = some b1 ∧ (b1 = true → b = true) ∧ (b1 = false → anyN f (l.drop (k + 1)) = some b) := by
 obtain ⟨hlt, rfl⟩ := List.getElem?_eq_some_iff.1 he
 rw [List.drop_eq_getElem_cons hlt] at h
 have h : (f l[k]).bind (fun b => bif b then some true else anyN f (l.drop (k + 1))) = some b := h
 obtain ⟨b1, h1, h2⟩ := Option.bind_eq_some_iff.1 h
 refine ⟨b1, h1, fun h3 => ?_, fun h3 => ?_⟩
 ·subst h3; injection h2 with h2; exact h2.symm
 ·subst h3; exact h2
theorem eis_ty {t : Nat} (h : t ≠ 37) (p v : Value) (w : World) : (binOp .eql 28 (.iface t p) (.iface 37 v)).run Tryd.prog w = .ok (.bool false) w := run_eql_iface_types (P := Tryd.prog) t 37 p v Tryd.underlying28 h w
theorem one_facts {t : Nat} (h : t = 78 ∨ t = 81 ∨ t = 74) (p : Value) : ∃ f, (∀ w, (Instr.typeAssert (.iface t p) 28 127 true).run Tryd.prog w = .ok (.tuple #[.nilIface, .bool false]) w) ∧ (∀ w, (Instr.typeAssert (.iface t p) 28 121 true).run Tryd.prog w = .ok (.tuple #[.iface t p, .bool true]) w) ∧
  (∀ w, (Go.method 281 t p "Unwrap").run Tryd.prog w = .ok (f, p) w) ∧ (∀ w, (callFunc f #[p]).run Tryd.prog w = .ok (.enter f #[p]) w) ∧ (∀ w, (callMethod (.iface t p) "Unwrap" #[]).run Tryd.prog w = .ok (.enter f #[p]) w) := by
 rcases h with rfl | rfl | rfl
 ·exact ⟨91, fun w => run_typeAssert_lacksB Tryd.underlying127 (by kernel_rfl) (by kernel_rfl) _ 28 w, fun w => run_typeAssert_hasB Tryd.underlying121 (by kernel_rfl) _ 28 w, fun w => by kernel_rfl, fun w => by kernel_rfl, fun w => by kernel_rfl⟩
 ·exact ⟨93, fun w => run_typeAssert_lacksB Tryd.underlying127 (by kernel_rfl) (by kernel_rfl) _ 28 w, fun w => run_typeAssert_hasB Tryd.underlying121 (by kernel_rfl) _ 28 w, fun w => by kernel_rfl, fun w => by kernel_rfl, fun w => by kernel_rfl⟩
 ·exact ⟨87, fun w => run_typeAssert_lacksB Tryd.underlying127 (by kernel_rfl) (by kernel_rfl) _ 28 w, fun w => run_typeAssert_hasB Tryd.underlying121 (by kernel_rfl) _ 28 w, fun w => by kernel_rfl, fun w => by kernel_rfl, fun w => by kernel_rfl⟩
theorem many_facts {t : Nat} (h : t = 84 ∨ t = 76) (p : Value) : ∃ f, (∀ w, (Instr.typeAssert (.iface t p) 28 127 true).run Tryd.prog w = .ok (.tuple #[.nilIface, .bool false]) w) ∧ (∀ w, (Instr.typeAssert (.iface t p) 28 121 true).run Tryd.prog w = .ok (.tuple #[.nilIface, .bool false]) w) ∧ (∀ w, (Instr.typeAssert (.iface t p) 28 123 true).run Tryd.prog w = .ok (.tuple #[.iface t p, .bool true]) w) ∧
  (∀ w, (Go.method 281 t p "Unwrap").run Tryd.prog w = .ok (f, p) w) ∧ (∀ w, (callFunc f #[p]).run Tryd.prog w = .ok (.enter f #[p]) w) ∧ (∀ w, (callMethod (.iface t p) "Unwrap" #[]).run Tryd.prog w = .ok (.enter f #[p]) w) := by
 rcases h with rfl | rfl
 ·exact ⟨95, fun w => run_typeAssert_lacksB Tryd.underlying127 (by kernel_rfl) (by kernel_rfl) _ 28 w, fun w => run_typeAssert_lacksB Tryd.underlying121 (by kernel_rfl) (by kernel_rfl) _ 28 w, fun w => run_typeAssert_hasB Tryd.underlying123 (by kernel_rfl) _ 28 w, fun w => by kernel_rfl, fun w => by kernel_rfl, fun w => by kernel_rfl⟩
 ·exact ⟨89, fun w => run_typeAssert_lacksB Tryd.underlying127 (by kernel_rfl) (by kernel_rfl) _ 28 w, fun w => run_typeAssert_lacksB Tryd.underlying121 (by kernel_rfl) (by kernel_rfl) _ 28 w, fun w => run_typeAssert_hasB Tryd.underlying123 (by kernel_rfl) _ 28 w, fun w => by kernel_rfl, fun w => by kernel_rfl, fun w => by kernel_rfl⟩
theorem eis_comp : (Tryd.prog.info? 37).map (·.comparable) = some true := by kernel_rfl
theorem eis_size : (Tryd.prog.info? 60).map (·.size) = some 7 := by kernel_rfl
set_option maxHeartbeats 4000000 in
set_option maxRecDepth 1000000 in
theorem eis_walk : ∀ (n : Nat) (c : Int) (e : Er) (b : Bool), isN n c e = some b → ∀ (C : Cx) (φ : Phi) (u : Value) (w : World) (ta : Addr) (T : Er), ErR φ e u → TgtR φ c ta T → Hb C w [] (Inv GG φ) →
  Calls Tryd.prog 48 #[u, .iface 37 (.pointer (some ta)), .bool true] w fun x w' => x = .returned (.bool b) ∧ ∃ φ', φ.le φ' ∧ Hb C w' [] (Inv GG φ') := by
 intro n
 induction n using Nat.strongRecOn with
 | ind n ih =>
 intro c e b he C φ u w ta T hu ht hb
 have IH := hidL ih
 clear ih
 have t28 := Tryd.underlying28; have a28 := Tryd.isAgg28; have z28 := Tryd.sizeOf28; have v28 := Tryd.zeroValue28; have u28 := run_underlying Tryd.underlying28
 have t25 := Tryd.underlying25; have a25 := Tryd.isAgg25; have z25 := Tryd.sizeOf25; have v25 := Tryd.zeroValue25; have u25 := run_underlying Tryd.underlying25
 have h0 : Hid (RdI C φ n c b u w n) := hidL ⟨Nat.le_refl _, φ, e, φ.le_refl, he, hu, hb⟩
 have hT := hidL ht
 clear he hu hb ht
 go_enter Tryd.func48, Tryd.ntmps48
 go_wp2_with fail
 go_loopw [0] (fun u wr => Hid (∃ m, RdI C φ n c b u wr m)) (fun u wr => leastK (RdI C φ n c b u wr))
 case atStart => exact ⟨n, h0.out⟩
 case round =>
  obtain ⟨⟨hmn, φ', e', hle, he, hu, hb⟩, hmin⟩ := leastK_spec hrel.out
  have HL := hidL hmin
  clear hmin
  generalize hM : leastK (RdI C φ n c b u0 wr) = m at hmn he HL
  have HM := hidL hM
  clear hM
  have HB := hidL hb
  clear hb hrel h0
  cases m with
  | zero => cases he
  | succ m =>
  cases e' with
  | nil =>
   have hb0 : b = false := by
    have he : some false = some b := he
    injection he with he
    exact he.symm
   have hu : u0 = .nilIface := hu
   subst hb0 hu
   clear he
   have e1 := eis_nil0 (.pointer (some ta)) wr
   have e2 := eis_nil1 28 wr
   have e3 := eis_nil2 28 wr
   have e4 := eis_nil3 28 wr
   go_wp2
   go_ret
   exact ⟨rfl, φ', hle, HB.out⟩
  | nd t bx cs k =>
   obtain ⟨p, us, ws, rfl, h2, h3, h4⟩ := hu
   have he2 : (bif Nat.beq t 37 && !bx then (match unEr (.st ErrR) cs k with | some y => some (decide ((y.1 : Int) = 1) && decide ((y.2.1.1 : Int) = c)) | none => none)
    else bif (Nat.beq t 78 && !bx) || ((Nat.beq t 81 && !bx) || (Nat.beq t 74 && bx)) then (mUnwrap (.nd t bx cs k)).bind (isN m c)
    else bif (Nat.beq t 84 && !bx) || (Nat.beq t 76 && bx) then (mUnwraps (.nd t bx cs k)).bind fun l => bif Nat.ble l.length 1048576 then anyN (isN m c) l else none
    else bif Nat.beq t 72 then some false else none) = some b := he
   clear he
   cases hE : (Nat.beq t 37 && !bx) with
   | true =>
    rw [hE, cond_true] at he2
    simp only [Bool.and_eq_true, Bool.not_eq_true'] at hE
    obtain ⟨ht, rfl⟩ := hE
    have ht := Nat.eq_of_beq_eq_true ht
    subst ht
    obtain ⟨ad, rfl, hP, hB⟩ := h4
    cases hy : unEr (.st ErrR) cs k with
    | none => rw [hy] at he2; cases he2
    | some y =>
    rw [hy] at he2
    have he : (decide ((y.1 : Int) = 1) && decide ((y.2.1.1 : Int) = c)) = b := by injection he2
    have hr := unEr_ok (.st ErrR) cs k y us ws hy h2 h3
    obtain ⟨y', cells', g1, g2, g3, g4, g5⟩ := (hT.out.mono hle).here
    obtain ⟨i, hi, hcmp⟩ := Option.map_eq_some_iff.1 eis_comp
    obtain ⟨j, hj, hjs⟩ := Option.map_eq_some_iff.1 eis_size
    have hie : (Instr.typeAssert (.iface 37 (.pointer (some ad))) 28 127 true).run Tryd.prog wr = .ok (.tuple #[.iface 37 (.pointer (some ad)), .bool true]) wr := run_typeAssert_hasB Tryd.underlying127 (by kernel_rfl) _ 28 wr
    have hoe : ∀ w, (Instr.typeAssert (.iface 37 (.pointer (some ad))) 28 121 true).run Tryd.prog w = .ok (.tuple #[.nilIface, .bool false]) w := fun w => run_typeAssert_lacksB Tryd.underlying121 (by kernel_rfl) (by kernel_rfl) _ 28 w
    have hme : ∀ w, (Instr.typeAssert (.iface 37 (.pointer (some ad))) 28 123 true).run Tryd.prog w = .ok (.tuple #[.nilIface, .bool false]) w := fun w => run_typeAssert_lacksB Tryd.underlying123 (by kernel_rfl) (by kernel_rfl) _ 28 w
    by_cases hne : ad = ta
    ·subst hne
     obtain ⟨s1, s2⟩ := err_same hr g1 hP g2
     have hbt : b = true := by rw [← he, s1, s2, g4, g5]; simp
     have heq := run_eql_iface_ptr_same (P := Tryd.prog) wr ad Tryd.underlying28 Tryd.underlying37 hi hcmp hj
     subst hbt
     clear he hr hy h2 h3 hP hB g1 g2 g3 g4 g5 s1 s2
     go_wp2
     go_ret
     exact ⟨rfl, φ', hle, HB.out⟩
    ·obtain ⟨ca, tA, hca⟩ := HB.out.get.2.blk _ hB
     obtain ⟨cb, tB, hcb⟩ := HB.out.get.2.blk _ g3
     have heq := run_eql_iface_ptr_other (P := Tryd.prog) wr Tryd.underlying28 Tryd.underlying37 hi hcmp hj (by rw [hjs]; decide) hne hca hcb
     have hF : fault_Error__Is y T = some b := by
      obtain ⟨_, yt, k1, k2, k3⟩ := hT.out
      unfold fault_Error__Is fault_Error__is
      rw [k1, ← he, ← k3]
      clear IH HL HM hT HB
      by_cases h1 : (y.1 : Int) = 1 <;> by_cases h2 : (y.2.1.1 : Int) = yt.2.1.1 <;> simp [h1, h2, k2, eq_comm] <;> omega
     have hcall := hidL (is84_call (C := C) hr hP (Lf.ErR.mono hle hT.out.er) hF HB.out)
     have hmt : ∀ w, (Go.method 281 37 (.pointer (some ad)) "Is").run Tryd.prog w = .ok (84, .pointer (some ad)) w := fun w => by kernel_rfl
     clear he hr hy h2 h3 hP hB g1 g2 g3 g4 g5 hF hca hcb
     go_wp2_with (go_at_call 84; refine hcall.out.mono ?_)
     rintro x w1 rfl φ1 hle1 hb1
     have HB1 := hidL (Phi.le_trans hle hle1)
     have HB2 := hidL hb1
     clear hle1 hb1 hcall
     cases b with
     | true =>
      go_wp2
      go_ret
      exact ⟨rfl, φ1, HB1.out, HB2.out⟩
     | false =>
      go_wp2
      go_ret
      exact ⟨rfl, φ1, HB1.out, HB2.out⟩
   | false =>
    rw [hE, cond_false] at he2
    cases hO : (Nat.beq t 78 && !bx) || ((Nat.beq t 81 && !bx) || (Nat.beq t 74 && bx)) with
    | true =>
     rw [hO, cond_true] at he2
     obtain ⟨e2, q1, q2⟩ := Option.bind_eq_some_iff.1 he2
     have hu : Lf.ErR φ' (.nd t bx cs k) (.iface t p) := ⟨p, us, ws, rfl, h2, h3, h4⟩
     have hts : t = 78 ∨ t = 81 ∨ t = 74 := by
      simp only [Bool.or_eq_true, Bool.and_eq_true] at hO
      rcases hO with h | h | h
      ·exact .inl (Nat.eq_of_beq_eq_true h.1)
      ·exact .inr (.inl (Nat.eq_of_beq_eq_true h.1))
      ·exact .inr (.inr (Nat.eq_of_beq_eq_true h.1))
     clear he2 h2 h3 h4 hE hO
     have e1 := eis_ty (t := t) (by omega) p (.pointer (some ta)) wr
     obtain ⟨f, hie, hoe, hmt, hcf, hcm⟩ := one_facts hts p
     have hcall := hidL (unw_call (C := C) (f := f) hcm hu q1 HB.out)
     clear hu q1 hts hcm
     go_wp2_with (refine hcall.out.mono ?_)
     rintro x w1 ⟨v, φ1, rfl, hle1, hb1, hv⟩
     have HB1 := hidL (Phi.le_trans hle hle1)
     have HB2 := hidL hb1
     clear hle1 hb1 hcall
     cases e2 with
     | nil =>
      have hv : v = .nilIface := hv
      have hbf : b = false := by
       cases m with
       | zero => cases q2
       | succ m => injection q2 with q2; exact q2.symm
      subst hv hbf
      clear q2
      go_wp2
      go_ret
      exact ⟨rfl, φ1, HB1.out, HB2.out⟩
     | nd t2 bx2 cs2 k2 =>
      have hv2 := hidL hv
      obtain ⟨p2, us2, ws2, rfl, _⟩ := hv
      have Q2 := hidL q2
      clear q2
      go_wp2
      have hR : RdI C φ n c b (.iface t2 p2) w1 m := ⟨by omega, φ1, _, HB1.out, Q2.out, hv2.out, HB2.out⟩
      refine ⟨hidL ⟨m, hR⟩, ?_⟩
      rw [HM.out]
      have := (leastK_spec ⟨m, hR⟩).2 m hR
      omega
    | false =>
    rw [hO, cond_false] at he2
    cases hY : (Nat.beq t 84 && !bx) || (Nat.beq t 76 && bx) with
    | true =>
     rw [hY, cond_true] at he2
     obtain ⟨l, q1, q2⟩ := Option.bind_eq_some_iff.1 he2
     cases hlen : Nat.ble l.length 1048576 with
     | false => rw [hlen] at q2; cases q2
     | true =>
     rw [hlen, cond_true] at q2
     have hlen := Nat.le_of_ble_eq_true hlen
     have hu : Lf.ErR φ' (.nd t bx cs k) (.iface t p) := ⟨p, us, ws, rfl, h2, h3, h4⟩
     have hts : t = 84 ∨ t = 76 := by
      simp only [Bool.or_eq_true, Bool.and_eq_true] at hY
      rcases hY with h | h
      ·exact .inl (Nat.eq_of_beq_eq_true h.1)
      ·exact .inr (Nat.eq_of_beq_eq_true h.1)
     clear he2 h2 h3 h4 hE hO hY
     have e1 := eis_ty (t := t) (by omega) p (.pointer (some ta)) wr
     obtain ⟨f, hie, hoe, hme, hmt, hcf, hcm⟩ := many_facts hts p
     have hcall := hidL (uns_call (C := C) (f := f) hcm hu q1 HB.out)
     clear hu q1 hts hcm
     go_wp2_with (refine hcall.out.mono ?_)
     rintro x w1 ⟨A, cap, us1, φ1, rfl, hle1, hb1, hers, hrd⟩
     have HB1 := hidL (Phi.le_trans hle hle1)
     have HB2 := hidL hb1
     have HE := hidL hers
     have HR := hidL hrd
     have Q2 := hidL q2
     clear hle1 hb1 hcall hers hrd q2 hmt hcf
     go_wp2_with fail
     go_loopw [45] (fun i wk => ∃ j : Nat, j ≤ l.length ∧ i = .int .i64 j ∧ Hid (∃ φ2, φ1.le φ2 ∧ Hb C wk [] (Inv GG φ2) ∧ anyN (isN m c) (l.drop j) = some b)) (fun i _ => l.length - (intOf i).toNat)
     case atStart => exact ⟨0, Nat.zero_le _, rfl, φ1, φ1.le_refl, HB2.out, by simpa using Q2.out⟩
     case round =>
      obtain ⟨j, hj, rfl, hK⟩ := hrel
      obtain ⟨φ2, hle2, hb2, hany⟩ := hK.out
      have HL2 := hidL hle2
      have HB3 := hidL hb2
      clear hK hb2
      by_cases hjl : j < l.length
      ·have hej : l[j]? = some l[j] := List.getElem?_eq_getElem hjl
       obtain ⟨uj, hu1, hu2⟩ := ers_get HE.out hej
       obtain ⟨b1, r1, r2, r3⟩ := anyN_drop hany hej
       obtain ⟨ad, rfl, hP⟩ := HR.out (by omega)
       have hcell : wr.cell? (ad.add j) = some uj := HB3.out.get.2 _ _ (hle2 _ _ (hP j uj hu1))
       have hcall2 := hidL (IH.out m (by omega) c l[j] b1 r1 C φ2 uj wr ta T (Lf.ErR.mono hle2 hu2) (hT.out.mono (Phi.le_trans HB1.out hle2)) HB3.out)
       have R2 := hidL r2
       have R3 := hidL r3
       have HJ := hidL hjl
       clear hej hu1 hu2 hany r1 r2 r3 hP hle2
       go_wp2_with (go_at_call 48; refine hcall2.out.mono ?_)
       rintro x w2 ⟨rfl, φ3, hle3, hb3⟩
       have HL3 := hidL (Phi.le_trans HL2.out hle3)
       have HB4 := hidL hb3
       clear hle3 hb3 hcall2
       cases b1 with
       | true =>
        have hbt : b = true := R2.out rfl
        subst hbt
        go_wp2
        go_ret
        exact ⟨rfl, φ3, Phi.le_trans HB1.out HL3.out, HB4.out⟩
       | false =>
        go_wp2
        have hj3 := HJ.out
        exact ⟨⟨j + 1, by omega, by go_num, hidL ⟨φ3, HL3.out, HB4.out, by simpa using R3.out⟩⟩, by simp [intOf]; omega⟩
      ·have hjl : j = l.length := by omega
       subst hjl
       have hbf : b = false := by
        rw [List.drop_length] at hany
        injection hany with hany
        exact hany.symm
       subst hbf
       clear hany hle2
       go_wp2
       go_ret
       exact ⟨rfl, φ2, Phi.le_trans HB1.out HL2.out, HB3.out⟩
    | false =>
     rw [hY, cond_false] at he2
     cases hZ : Nat.beq t 72 with
     | false => rw [hZ] at he2; cases he2
     | true =>
      rw [hZ, cond_true] at he2
      have ht := Nat.eq_of_beq_eq_true hZ
      subst ht
      have hbf : b = false := by injection he2 with he2; exact he2.symm
      subst hbf
      have e1 := eis_ty (t := 72) (by omega) p (.pointer (some ta)) wr
      have e2 : (Instr.typeAssert (.iface 72 p) 28 127 true).run Tryd.prog wr = .ok (.tuple #[.nilIface, .bool false]) wr := run_typeAssert_lacksB Tryd.underlying127 (by kernel_rfl) (by kernel_rfl) _ 28 wr
      have e3 : (Instr.typeAssert (.iface 72 p) 28 121 true).run Tryd.prog wr = .ok (.tuple #[.nilIface, .bool false]) wr := run_typeAssert_lacksB Tryd.underlying121 (by kernel_rfl) (by kernel_rfl) _ 28 wr
      have e4 : (Instr.typeAssert (.iface 72 p) 28 123 true).run Tryd.prog wr = .ok (.tuple #[.nilIface, .bool false]) wr := run_typeAssert_lacksB Tryd.underlying123 (by kernel_rfl) (by kernel_rfl) _ 28 wr
      clear he2 h2 h3 h4 hE hO hY hZ
      go_wp2
      go_ret
      exact ⟨rfl, φ', hle, HB.out⟩
end Go.Fn
/- errors.Is, as an entry: what is looked for is a fault of ours. -/
namespace Go.Fn
open Go Go.Lf Go.Eng Go.RowKit Go.Proofs Go.Extern Go.Extern.Stop Go.Stop
theorem ei_typeOf (v : Value) (w : World) : (Extern.ReflectliteType.typeOf #[.iface 37 v]).run Tryd.prog w = .ok (.iface 114 (.agg #[.pointer (some ⟨5, 37, none⟩)])) w := by kernel_rfl
def cmpX : Array Value → Sem Value := Extern.ReflectliteType.method fun t => do Extern.Rtype.noPackHeld "Comparable" t; pure (Value.bool (← typeInfo t).comparable)
theorem ei_comp (w : World) : (cmpX #[.agg #[.pointer (some ⟨5, 37, none⟩)]]).run Tryd.prog w = .ok (.bool true) w := by kernel_rfl
theorem ei_method (v : Value) (w : World) : (Go.method 281 114 v "Comparable").run Tryd.prog w = .ok (106, v) w := by kernel_rfl
set_option maxHeartbeats 4000000 in
set_option maxRecDepth 1000000 in
theorem ei_walk (c : Int) (e : Er) (b : Bool) (he : isN 400 c e = some b) (C : Cx) (φ : Phi) (u : Value) (w : World) (ta : Addr) (T : Er) (hu : Lf.ErR φ e u) (ht : TgtR φ c ta T) (hb : Hb C w [] (Inv GG φ)) :
  Calls Tryd.prog 30 #[u, .iface 37 (.pointer (some ta))] w fun x w' => x = .returned (.bool b) ∧ ∃ φ', φ.le φ' ∧ Hb C w' [] (Inv GG φ') := by
 have t28 := Tryd.underlying28; have a28 := Tryd.isAgg28; have z28 := Tryd.sizeOf28; have v28 := Tryd.zeroValue28; have u28 := run_underlying Tryd.underlying28
 cases e with
 | nil =>
  have hu : u = .nilIface := hu
  have hbf : b = false := by injection he with he; exact he.symm
  subst hu hbf
  clear he
  have HB := hidL hb
  clear hb ht
  have e1 := eis_nil0 (.pointer (some ta)) w
  go_enter Tryd.func30, Tryd.ntmps30
  go_wp2
  go_ret
  exact ⟨rfl, φ, φ.le_refl, HB.out⟩
 | nd t bx cs k =>
  have hcall := hidL (eis_walk 400 c _ b he C φ u w ta T hu ht hb)
  obtain ⟨p, us, ws, rfl, _⟩ := hu
  clear he ht hb
  have h47 := @run_callFunc_extern Tryd.prog 47 _ Extern.ReflectliteType.typeOf Tryd.func47 (by kernel_rfl) (by kernel_rfl) (by kernel_rfl) (by kernel_rfl)
  have h106 := @run_callFunc_extern Tryd.prog 106 _ cmpX Tryd.func106 (by kernel_rfl) (by kernel_rfl) (by kernel_rfl) (by kernel_rfl)
  have tT := ei_typeOf
  have cT := ei_comp
  have mR := ei_method
  go_enter Tryd.func30, Tryd.ntmps30
  go_wp2_with (go_at_call 48; refine hcall.out.mono ?_)
  rintro x w1 ⟨rfl, φ1, hle1, hb1⟩
  have HB1 := hidL hle1
  have HB2 := hidL hb1
  clear hle1 hb1 hcall
  go_wp2
  go_ret
  exact ⟨rfl, φ1, HB1.out, HB2.out⟩
noncomputable def errors_Is (z : Er × Er) : Option Bool := match asP 37 ErrS z.2 with
 | some (some y) => bif decide ((y.1 : Int) = 1) then isN 400 y.2.1.1 z.1 else none
 | _ => none
noncomputable def errors_IsEnt : Nat × Entry := (30, ⟨[.val .tr, .val .tr], [.bool], fun z => errors_Is z⟩)
theorem errors_Is_ok : EntryOk Tryd.prog GG 30 errors_IsEnt.2 := by
 refine ⟨GoFn.mk Tryd.f30 (by kernel_rfl) (by kernel_rfl) (by kernel_rfl), fun t h => ?_, fun z r hz C φ vals gs hs ha hb => ?_⟩
 ·have h : Par.val t ∈ ([.val .tr, .val .tr] : List Par) := h
  simp at h
  subst h
  rfl
 ·have hz : errors_Is z = some r := hz
  unfold errors_Is at hz
  split at hz
  case h_2 => cases hz
  case h_1 y hy =>
  cases hm : decide ((y.1 : Int) = 1) with
  | false => rw [hm] at hz; cases hz
  | true =>
  rw [hm, cond_true] at hz
  have hm := of_decide_eq_true hm
  cases ha with
  | val h1 h2 h3 =>
  cases h3 with
  | val h4 h5 h6 =>
  cases h6
  obtain ⟨⟨u, rfl, hu⟩, rfl⟩ := h2
  obtain ⟨⟨v, rfl, hv⟩, rfl⟩ := h5
  have hT : ∃ ta, v = .iface 37 (.pointer (some ta)) := by
   have hy : asP 37 ErrS z.2 = some (some y) := hy
   have hv : Lf.ErR φ z.2 v := hv
   revert hy hv
   generalize z.2 = T
   intro hy hv
   cases T with
   | nil => cases hy
   | nd i bx cs k =>
    obtain ⟨p, us, ws, rfl, _, _, h4⟩ := hv
    simp only [asP] at hy
    cases hi : Nat.beq i 37 with
    | false => rw [hi] at hy; cases hy
    | true =>
     rw [hi, cond_true] at hy
     have hi := Nat.eq_of_beq_eq_true hi
     subst hi
     cases bx with
     | true => cases hy
     | false =>
      obtain ⟨ad, rfl, _⟩ := h4
      exact ⟨ad, rfl⟩
  obtain ⟨ta, rfl⟩ := hT
  refine (ei_walk y.2.1.1 z.1 r hz C φ u C.w0 ta z.2 hu ⟨hv, y, hy, hm, rfl⟩ hb).mono ?_
  rintro x w' ⟨rfl, φ', hle, hb'⟩
  exact ⟨_, φ', [], [], rfl, hle, hb', ⟨[.bool r], TupR.cons (t := .bool) (x := r) (cs := [.bool r]) (h := []) (hs := []) rfl ⟨rfl, rfl⟩ .nil, rfl⟩, .nil⟩
end Go.Fn
open Go Go.Lf
set_option maxRecDepth 10000
namespace Go.Fn
abbrev qY0 : Lf.Ty := (.st (.pr .str (.pr (.int .i64) .unit)))
abbrev qY1 : Lf.Ty := (.pr .str (.pr (.sl qY0) .unit))
abbrev qY2 : Lf.Ty := (.pr (.int .i64) (.pr (.sl qY0) .unit))
abbrev qY3 : Lf.Ty := (.st (.pr (.int .i64) qY2))
abbrev qY4 : Lf.Ty := (.pr (.int .i64) (.pr (.int .i64) qY1))
abbrev qY5 : Lf.Ty := (.pr (.int .i64) (.pr (.int .i64) qY4))
abbrev qY6 : Lf.Ty := (.pr (.int .i64) (.pr (.st qY5) .unit))
def TysR : List (Nat × Lf.TyI) := [(2, ⟨(.int .i64), 0, 0⟩),
 (3, ⟨(.int .i64), 0, 0⟩),
 (4, ⟨.bool, 0, 0⟩),
 (5, ⟨(.int .u8), 0, 0⟩),
 (6, ⟨(.int .u8), 0, 0⟩),
 (7, ⟨(.st (.pr (.int .i64) (.pr (.int .i64) (.pr .bool (.pr (.int .u8) .unit))))), 0, 0⟩),
 (8, ⟨(.st (.pr (.int .i64) (.pr (.int .i64) (.pr .bool (.pr (.int .u8) .unit))))), 0, 0⟩),
 (9, ⟨.str, 0, 0⟩),
 (10, ⟨.str, 0, 0⟩),
 (11, ⟨.str, 0, 0⟩),
 (12, ⟨(.int .u64), 0, 0⟩),
 (13, ⟨(.st (.pr .str (.pr (.int .u64) .unit))), 0, 0⟩),
 (14, ⟨(.st (.pr .str (.pr (.int .u64) .unit))), 0, 0⟩),
 (21, ⟨(.int .i32), 0, 0⟩),
 (22, ⟨(.sl (.st (.pr (.int .i64) (.pr (.st qY5) (.pr .str (.pr (.int .i64) (.pr (.sl (.int .i64)) .unit))))))), 68, 128⟩),
 (25, ⟨(.sl .tr), 28, 16⟩),
 (28, ⟨.tr, 0, 0⟩),
 (40, ⟨(.int .i64), 0, 0⟩),
 (41, ⟨(.sl qY0), 66, 24⟩),
 (42, ⟨(.st qY5), 0, 0⟩),
 (43, ⟨(.st qY5), 0, 0⟩),
 (48, ⟨(.sl (.int .i64)), 3, 8⟩),
 (50, ⟨(.sl (.st qY5)), 43, 72⟩),
 (59, ⟨(.st qY6), 0, 0⟩),
 (60, ⟨(.st qY6), 0, 0⟩),
 (65, ⟨qY0, 0, 0⟩),
 (66, ⟨qY0, 0, 0⟩),
 (67, ⟨(.st (.pr (.int .i64) (.pr (.st qY5) (.pr .str (.pr (.int .i64) (.pr (.sl (.int .i64)) .unit)))))), 0, 0⟩),
 (71, ⟨(.st (.pr .str .unit)), 0, 0⟩),
 (73, ⟨(.st (.pr .str (.pr .tr .unit))), 0, 0⟩),
 (74, ⟨(.st (.pr .str (.pr .tr .unit))), 0, 0⟩),
 (75, ⟨(.st (.pr .str (.pr (.sl .tr) .unit))), 0, 0⟩),
 (76, ⟨(.st (.pr .str (.pr (.sl .tr) .unit))), 0, 0⟩),
 (79, ⟨(.st (.pr qY0 (.pr .tr .unit))), 0, 0⟩),
 (80, ⟨(.st (.pr qY0 (.pr .tr .unit))), 0, 0⟩),
 (82, ⟨(.st (.pr (.int .i64) (.pr .tr .unit))), 0, 0⟩),
 (83, ⟨(.st (.pr (.int .i64) (.pr .tr .unit))), 0, 0⟩),
 (85, ⟨(.st (.pr (.sl .tr) .unit)), 0, 0⟩),
 (86, ⟨(.st (.pr (.sl .tr) .unit)), 0, 0⟩),
 (88, ⟨(.int .u64), 0, 0⟩),
 (102, ⟨qY3, 0, 0⟩),
 (107, ⟨(.sl (.int .u8)), 5, 1⟩),
 (27, ⟨.tr, 0, 0⟩),
 (28, ⟨.tr, 0, 0⟩),
 (37, ⟨(.ptr (.st qY6)), 0, 0⟩),
 (78, ⟨(.ptr (.st (.pr qY0 (.pr .tr .unit)))), 0, 0⟩),
 (81, ⟨(.ptr (.st (.pr (.int .i64) (.pr .tr .unit)))), 0, 0⟩),
 (84, ⟨(.ptr (.st (.pr (.sl .tr) .unit))), 0, 0⟩),
 (121, ⟨.tr, 0, 0⟩),
 (123, ⟨.tr, 0, 0⟩),
 (125, ⟨.tr, 0, 0⟩),
 (126, ⟨.tr, 0, 0⟩),
 (127, ⟨.tr, 0, 0⟩)]
theorem TysR_ok : ∀ id i, Lf.look TysR id = some i → Lf.TyOk Proofs.Tryd.prog id i := Lf.tysB_ok (by kernel_rfl)
def TysREq : List (Nat × Lf.Ty) := []
theorem TysREq_ok : ∀ id t, Lf.look TysREq id = some t → Lf.eqTop Proofs.Tryd.prog id t = true := Lf.eqsB_ok (by kernel_rfl)
def TysRIm : List (Nat × List (Nat × Bool)) := [(125, [(37, false), (78, true), (81, true), (84, false), (72, false), (74, true), (76, false)]), (126, [(37, false), (78, false), (81, false), (84, true), (72, false), (74, false), (76, true)])]
theorem TysRIm_ok : ∀ a l, Lf.look TysRIm a = some l → Lf.ImOk Proofs.Tryd.prog a l := Lf.imsB_ok (by kernel_rfl)
noncomputable def fault_New_rRun : Lf.RunS := ⟨⟨22, TysR, [], [], [21], [(21, .tr)], [], TysREq, [], some 4000, TysRIm, []⟩, (Proofs.Tryd.f33.body).getD .skip, .no, [.val (.int .i64), .val (.int .i64), .val (.int .i64), .val (.int .i64), .val .str], [.tr], [.tmp 10]⟩
noncomputable def fault_New_r := fault_New_rRun.F
noncomputable def fault_New_rEnt : Nat × Lf.Entry := (33, ⟨[.val (.int .i64), .val (.int .i64), .val (.int .i64), .val (.int .i64), .val .str], [.tr], fault_New_r⟩)
theorem fault_New_r_ok : Lf.EntryOk Proofs.Tryd.prog GG 33 fault_New_rEnt.2 := Lf.run_ok fault_New_rRun Proofs.Tryd.f33 (by kernel_rfl) ⟨TysR_ok, Lf.FnsOk.look .nil, Lf.IpsOk.look .nil, TysREq_ok, TysRIm_ok, Lf.IvsOk.look .nil, Lf.FxsOk.look .nil⟩ (by kernel_rfl) (by kernel_rfl) (by kernel_rfl) (by kernel_rfl) (by kernel_rfl) (by kernel_rfl) (by kernel_rfl)
noncomputable def fault_In_rRun : Lf.RunS := ⟨⟨12, TysR, [], [], [11], [(11, .tr)], [], TysREq, [], some 4000, TysRIm, []⟩, (Proofs.Tryd.f16.body).getD .skip, .no, [.val .tr, .val (.int .i64)], [.tr], [.tmp 4]⟩
noncomputable def fault_In_r := fault_In_rRun.F
noncomputable def fault_In_rEnt : Nat × Lf.Entry := (16, ⟨[.val .tr, .val (.int .i64)], [.tr], fault_In_r⟩)
theorem fault_In_r_ok : Lf.EntryOk Proofs.Tryd.prog GG 16 fault_In_rEnt.2 := Lf.run_ok fault_In_rRun Proofs.Tryd.f16 (by kernel_rfl) ⟨TysR_ok, Lf.FnsOk.look .nil, Lf.IpsOk.look .nil, TysREq_ok, TysRIm_ok, Lf.IvsOk.look .nil, Lf.FxsOk.look .nil⟩ (by kernel_rfl) (by kernel_rfl) (by kernel_rfl) (by kernel_rfl) (by kernel_rfl) (by kernel_rfl) (by kernel_rfl)
noncomputable def fault_Under_rRun : Lf.RunS := ⟨⟨16, TysR, [], [], [15], [(15, .tr)], [], TysREq, [], some 4000, TysRIm, []⟩, (Proofs.Tryd.f14.body).getD .skip, .no, [.val .tr, .val .str, .val (.int .i64)], [.tr], [.tmp 6]⟩
noncomputable def fault_Under_r := fault_Under_rRun.F
noncomputable def fault_Under_rEnt : Nat × Lf.Entry := (14, ⟨[.val .tr, .val .str, .val (.int .i64)], [.tr], fault_Under_r⟩)
theorem fault_Under_r_ok : Lf.EntryOk Proofs.Tryd.prog GG 14 fault_Under_rEnt.2 := Lf.run_ok fault_Under_rRun Proofs.Tryd.f14 (by kernel_rfl) ⟨TysR_ok, Lf.FnsOk.look .nil, Lf.IpsOk.look .nil, TysREq_ok, TysRIm_ok, Lf.IvsOk.look .nil, Lf.FxsOk.look .nil⟩ (by kernel_rfl) (by kernel_rfl) (by kernel_rfl) (by kernel_rfl) (by kernel_rfl) (by kernel_rfl) (by kernel_rfl)
noncomputable def fault_Error__is_rRun : Lf.RunS := ⟨⟨12, TysR, [], [], [], [], [], TysREq, [], some 4000, TysRIm, []⟩, (Proofs.Tryd.f44.body).getD .skip, (.seq .no (.seq (.join (.one .nrm ⟨[], [], [(2, .bool)], [], []⟩) .no) .no)), [.val (.op (.st qY6))], [.bool], [.tmp 2]⟩
noncomputable def fault_Error__is_r := fault_Error__is_rRun.F
noncomputable def fault_Error__is_rEnt : Nat × Lf.Entry := (44, ⟨[.val (.op (.st qY6))], [.bool], fault_Error__is_r⟩)
theorem fault_Error__is_r_ok : Lf.EntryOk Proofs.Tryd.prog GG 44 fault_Error__is_rEnt.2 := Lf.run_ok fault_Error__is_rRun Proofs.Tryd.f44 (by kernel_rfl) ⟨TysR_ok, Lf.FnsOk.look .nil, Lf.IpsOk.look .nil, TysREq_ok, TysRIm_ok, Lf.IvsOk.look .nil, Lf.FxsOk.look .nil⟩ (by kernel_rfl) (by kernel_rfl) (by kernel_rfl) (by kernel_rfl) (by kernel_rfl) (by kernel_rfl) (by kernel_rfl)
noncomputable def fault_gather_rRun (self : prodT (([.val .tr, .val qY3, .val (.rw 43 (.st qY5))] : List Lf.Par).map Lf.Par.ty) → Option (prodT (([(.rw 43 (.st qY5))] : List Lf.Ty) ++ Lf.outs [.val .tr, .val qY3, .val (.rw 43 (.st qY5))]))) : Lf.RunS := ⟨⟨110, TysR, [fault_Error__is_rEnt, (45, ⟨[.val .tr, .val qY3, .val (.rw 43 (.st qY5))], [(.rw 43 (.st qY5))], self⟩)], [2, 6, 37, 65, 84, 92, 106, 109], [], [(2, (.rw 43 (.st qY5))), (6, (.rw 43 (.st qY5))), (37, (.rw 43 (.st qY5))), (65, (.rw 43 (.st qY5))), (84, (.rw 43 (.st qY5))), (92, (.rw 43 (.st qY5))), (106, (.rw 43 (.st qY5))), (109, (.rw 43 (.st qY5))), (4000093, .dead 92 (.rw 43 (.st qY5)))], [], TysREq, [], some 4000, TysRIm, [(90, mUnwrapIv), (98, mUnwrapsIv)]⟩, (Proofs.Tryd.f45.body).getD .skip, (.seq .no (.seq (.join (.one .nrm ⟨[], [], [(2, (.rw 43 (.st qY5)))], [], []⟩) (.seq .no (.seq .no (.cnd .no (.seq .no (.cnd (.seq .no (.seq .no (.cnd (.seq .no (.seq (.join (.one .nrm ⟨[], [(9, .ref 9 [] 0), (4, .ref 4 [] 0)], [(2, (.rw 43 (.st qY5)))], [(9, 43, (.st qY5)), (4, 102, qY3)], []⟩) .no) .no)) .no))) (.seq .no (.cnd (.seq .no (.seq (.draw 13) (.draw 6))) (.seq .no (.cnd (.seq .no (.seq (.join (.one .nrm ⟨[11], [(4, .ref 4 [] 0)], [(2, (.rw 43 (.st qY5)))], [(4, 102, qY3)], []⟩) (.seq .no (.cnd (.draws 4 5) .no))) (.draw 6))) (.seq .no (.cnd (.seq .no (.souph 5 93 2)) (.seq .no (.cnd (.seq .no (.seq .no (.loop ⟨[98, 99], [(4, .ref 4 [] 0)], [(100, (.int .i64)), (2, (.rw 43 (.st qY5)))], [(4, 102, qY3)], []⟩ (.one (.ext 1) ⟨[], [], [(2, (.rw 43 (.st qY5)))], [], []⟩) .no))) .no)))))))))))))) .no)), [.val .tr, .val qY3, .val (.rw 43 (.st qY5))], [(.rw 43 (.st qY5))], [.tmp 6]⟩
noncomputable def fault_gather_r := Lf.recN (fun self => (fault_gather_rRun self).F) 100
noncomputable def fault_gather_rEnt : Nat × Lf.Entry := (45, ⟨[.val .tr, .val qY3, .val (.rw 43 (.st qY5))], [(.rw 43 (.st qY5))], fault_gather_r⟩)
theorem fault_gather_r_ok : Lf.EntryOk Proofs.Tryd.prog GG 45 fault_gather_rEnt.2 := Lf.recN_ok (ps := [.val .tr, .val qY3, .val (.rw 43 (.st qY5))]) (rs := [(.rw 43 (.st qY5))]) Proofs.Tryd.f45 (by kernel_rfl) (by kernel_rfl) (by kernel_rfl) (by kernel_rfl) (fun self ih => Lf.run_ok (fault_gather_rRun self) Proofs.Tryd.f45 (by kernel_rfl) ⟨TysR_ok, Lf.FnsOk.look (.con fault_Error__is_r_ok (.cons ih .nil)), Lf.IpsOk.look .nil, TysREq_ok, TysRIm_ok, Lf.IvsOk.look (.cons mUnwrap_iv (.cons mUnwraps_iv .nil)), Lf.FxsOk.look .nil⟩ (by kernel_rfl) (by kernel_rfl) (by kernel_rfl) (by kernel_rfl) (by kernel_rfl) (by kernel_rfl) (by kernel_rfl)) 100
noncomputable def fault_bare_rRun : Lf.RunS := ⟨⟨30, TysR, [], [2, 3, 8, 12], [], [(2, (.rw 66 qY0)), (3, (.rw 66 qY0)), (8, (.rw 66 qY0)), (12, (.rw 66 qY0))], [], TysREq, [], some 4000, TysRIm, []⟩, (Proofs.Tryd.f46.body).getD .skip, (.seq .no (.seq .no (.loop ⟨[], [], [(3, (.rw 66 qY0)), (0, .tr)], [], []⟩ (.one .ret ⟨[], [], [(2, (.rw 66 qY0))], [], []⟩) .no))), [.val .tr], [(.rw 66 qY0)], [.tmp 2]⟩
noncomputable def fault_bare_r := fault_bare_rRun.F
noncomputable def fault_bare_rEnt : Nat × Lf.Entry := (46, ⟨[.val .tr], [(.rw 66 qY0)], fault_bare_r⟩)
theorem fault_bare_r_ok : Lf.EntryOk Proofs.Tryd.prog GG 46 fault_bare_rEnt.2 := Lf.run_ok fault_bare_rRun Proofs.Tryd.f46 (by kernel_rfl) ⟨TysR_ok, Lf.FnsOk.look .nil, Lf.IpsOk.look .nil, TysREq_ok, TysRIm_ok, Lf.IvsOk.look .nil, Lf.FxsOk.look .nil⟩ (by kernel_rfl) (by kernel_rfl) (by kernel_rfl) (by kernel_rfl) (by kernel_rfl) (by kernel_rfl) (by kernel_rfl)
noncomputable def fault_All_rRun : Lf.RunS := ⟨⟨17, TysR, [fault_gather_rEnt, fault_bare_rEnt], [2, 3, 12], [], [(2, (.rw 43 (.st qY5))), (3, (.rw 43 (.st qY5))), (12, (.rw 43 (.st qY5)))], [], TysREq, [], some 4000, TysRIm, []⟩, (Proofs.Tryd.f25.body).getD .skip, .no, [.val .tr], [(.rw 43 (.st qY5))], [.tmp 2]⟩
noncomputable def fault_All_r := fault_All_rRun.F
noncomputable def fault_All_rEnt : Nat × Lf.Entry := (25, ⟨[.val .tr], [(.rw 43 (.st qY5))], fault_All_r⟩)
theorem fault_All_r_ok : Lf.EntryOk Proofs.Tryd.prog GG 25 fault_All_rEnt.2 := Lf.run_ok fault_All_rRun Proofs.Tryd.f25 (by kernel_rfl) ⟨TysR_ok, Lf.FnsOk.look (.con fault_gather_r_ok (.con fault_bare_r_ok .nil)), Lf.IpsOk.look .nil, TysREq_ok, TysRIm_ok, Lf.IvsOk.look .nil, Lf.FxsOk.look .nil⟩ (by kernel_rfl) (by kernel_rfl) (by kernel_rfl) (by kernel_rfl) (by kernel_rfl) (by kernel_rfl) (by kernel_rfl)
noncomputable def fault_Told_rRun : Lf.RunS := ⟨⟨13, TysR, [fault_All_rEnt], [], [], [], [], TysREq, [], some 4000, TysRIm, []⟩, (Proofs.Tryd.f27.body).getD .skip, .no, [.val .tr], [(.st qY5)], [.cell 2 43]⟩
noncomputable def fault_Told_r := fault_Told_rRun.F
noncomputable def fault_Told_rEnt : Nat × Lf.Entry := (27, ⟨[.val .tr], [(.st qY5)], fault_Told_r⟩)
theorem fault_Told_r_ok : Lf.EntryOk Proofs.Tryd.prog GG 27 fault_Told_rEnt.2 := Lf.run_ok fault_Told_rRun Proofs.Tryd.f27 (by kernel_rfl) ⟨TysR_ok, Lf.FnsOk.look (.con fault_All_r_ok .nil), Lf.IpsOk.look .nil, TysREq_ok, TysRIm_ok, Lf.IvsOk.look .nil, Lf.FxsOk.look .nil⟩ (by kernel_rfl) (by kernel_rfl) (by kernel_rfl) (by kernel_rfl) (by kernel_rfl) (by kernel_rfl) (by kernel_rfl)
noncomputable def fault_Text_rRun : Lf.RunS := ⟨⟨7, TysR, [], [], [], [], [], TysREq, [], some 4000, TysRIm, [(6, mErrorIv)]⟩, (Proofs.Tryd.f11.body).getD .skip, .no, [.val .tr], [.str], [.tmp 2]⟩
noncomputable def fault_Text_r := fault_Text_rRun.F
noncomputable def fault_Text_rEnt : Nat × Lf.Entry := (11, ⟨[.val .tr], [.str], fault_Text_r⟩)
theorem fault_Text_r_ok : Lf.EntryOk Proofs.Tryd.prog GG 11 fault_Text_rEnt.2 := Lf.run_ok fault_Text_rRun Proofs.Tryd.f11 (by kernel_rfl) ⟨TysR_ok, Lf.FnsOk.look .nil, Lf.IpsOk.look .nil, TysREq_ok, TysRIm_ok, Lf.IvsOk.look (.cons mError_iv .nil), Lf.FxsOk.look .nil⟩ (by kernel_rfl) (by kernel_rfl) (by kernel_rfl) (by kernel_rfl) (by kernel_rfl) (by kernel_rfl) (by kernel_rfl)
noncomputable def fault_Code_rRun : Lf.RunS := ⟨⟨5, TysR, [fault_New_rEnt], [], [], [], [], TysREq, [], some 4000, TysRIm, []⟩, (Proofs.Tryd.f31.body).getD .skip, .no, [.val (.int .i64)], [.tr], [.tmp 2]⟩
noncomputable def fault_Code_r := fault_Code_rRun.F
noncomputable def fault_Code_rEnt : Nat × Lf.Entry := (31, ⟨[.val (.int .i64)], [.tr], fault_Code_r⟩)
theorem fault_Code_r_ok : Lf.EntryOk Proofs.Tryd.prog GG 31 fault_Code_rEnt.2 := Lf.run_ok fault_Code_rRun Proofs.Tryd.f31 (by kernel_rfl) ⟨TysR_ok, Lf.FnsOk.look (.con fault_New_r_ok .nil), Lf.IpsOk.look .nil, TysREq_ok, TysRIm_ok, Lf.IvsOk.look .nil, Lf.FxsOk.look .nil⟩ (by kernel_rfl) (by kernel_rfl) (by kernel_rfl) (by kernel_rfl) (by kernel_rfl) (by kernel_rfl) (by kernel_rfl)
noncomputable def foliolaw01_awake_rRun : Lf.RunS := ⟨⟨55, TysR, [fault_Text_rEnt, fault_Under_rEnt, fault_In_rEnt, fault_Told_rEnt, errors_IsEnt, fault_Code_rEnt, fault_New_rEnt], [], [], [], [], TysREq, [], some 4000, TysRIm, []⟩, (Proofs.Tryd.f8.body).getD .skip, (.seq .no (.seq .no (.seq .no (.seq .no (.seq (.join (.one .nrm ⟨[], [], [(0, .bool)], [], []⟩) .no) .no))))), [], [.bool], [.tmp 0]⟩
noncomputable def foliolaw01_awake_r := foliolaw01_awake_rRun.F
noncomputable def foliolaw01_awake_rEnt : Nat × Lf.Entry := (8, ⟨[], [.bool], foliolaw01_awake_r⟩)
theorem foliolaw01_awake_r_ok : Lf.EntryOk Proofs.Tryd.prog GG 8 foliolaw01_awake_rEnt.2 := Lf.run_ok foliolaw01_awake_rRun Proofs.Tryd.f8 (by kernel_rfl) ⟨TysR_ok, Lf.FnsOk.look (.con fault_Text_r_ok (.con fault_Under_r_ok (.con fault_In_r_ok (.con fault_Told_r_ok (.con errors_Is_ok (.con fault_Code_r_ok (.con fault_New_r_ok .nil))))))), Lf.IpsOk.look .nil, TysREq_ok, TysRIm_ok, Lf.IvsOk.look .nil, Lf.FxsOk.look .nil⟩ (by kernel_rfl) (by kernel_rfl) (by kernel_rfl) (by kernel_rfl) (by kernel_rfl) (by kernel_rfl) (by kernel_rfl)
end Go.Fn
/- Chapter 1's first example, run. -/
namespace Go.Fn
open Go Go.Lf
noncomputable def foliolaw01_awake : Option Bool := foliolaw01_awake_r ()
noncomputable def foliolaw01_awakeEnt : Nat × Entry := (8, ⟨[], [.bool], fun _ => foliolaw01_awake⟩)
theorem foliolaw01_awake_ok : EntryOk Go.Proofs.Tryd.prog GG 8 foliolaw01_awakeEnt.2 := foliolaw01_awake_r_ok
theorem awake : foliolaw01_awake = some true := by kernel_rfl
end Go.Fn
/- errors.As, walked: where it looks for a fault of ours. -/
namespace Go.Fn
open Go Go.Lf Go.Eng Go.RowKit Go.Proofs Go.Extern Go.Extern.Stop Go.Stop
theorem as_valueOf39 (t : Addr) (w : World) : (ReflectliteValue.unpack (.iface 39 (.pointer (some t)))).run Tryd.prog w
  = .ok (.agg #[.pointer (some ⟨5, 39, none⟩), .pointer (some ⟨w.heap.size, 0, none⟩), .int .u64 150]) (w.alloc (.cells #[.pointer (some t)] 39)) := by kernel_rfl
theorem as_type39 (a : Addr) (w : World) : (ReflectliteValue.methodAny (ReflectliteValue.valueError "reflectlite.Value.Type" 0) (fun t _ _ _ => ReflectliteType.toType t) #[.agg #[.pointer (some ⟨5, 39, none⟩), .pointer (some a), .int .u64 150]]).run Tryd.prog w
  = .ok (.iface 114 (.agg #[.pointer (some ⟨5, 39, none⟩)])) w := by kernel_rfl
theorem as_mKind (h : Value) (w : World) : (Go.method 281 114 (.agg #[h]) "Kind").run Tryd.prog w = .ok (81, h) w := by kernel_rfl
theorem as_kind39 (w : World) : ((ReflectliteType.abiMethod fun t => (fun a : Nat => Value.int IntKind.u8 (a : Int)) <$> Rtype.kind t) #[.pointer (some ⟨5, 39, none⟩)]).run Tryd.prog w = .ok (.int .u8 22) w := by kernel_rfl
theorem as_kind37 (w : World) : ((ReflectliteType.abiMethod fun t => (fun a : Nat => Value.int IntKind.u8 (a : Int)) <$> Rtype.kind t) #[.pointer (some ⟨5, 37, none⟩)]).run Tryd.prog w = .ok (.int .u8 22) w := by kernel_rfl
theorem as_parts39 (a : Addr) (w : World) : (ReflectliteValue.parts (.agg #[.pointer (some ⟨5, 39, none⟩), .pointer (some a), .int .u64 150])).run Tryd.prog w = .ok (some (39, a, 150)) w := by kernel_rfl
theorem as_mElem (h : Value) (w : World) : (Go.method 281 114 (.agg #[h]) "Elem").run Tryd.prog w = .ok (107, .agg #[h]) w := by kernel_rfl
theorem as_mImpl (h : Value) (w : World) : (Go.method 281 114 (.agg #[h]) "Implements").run Tryd.prog w = .ok (108, .agg #[h]) w := by kernel_rfl
theorem as_mAssign (h : Value) (w : World) : (Go.method 281 114 (.agg #[h]) "AssignableTo").run Tryd.prog w = .ok (105, .agg #[h]) w := by kernel_rfl
theorem as_elem39 (w : World) : (ReflectliteType.method ReflectliteType.elem #[.agg #[.pointer (some ⟨5, 39, none⟩)]]).run Tryd.prog w = .ok (.iface 114 (.agg #[.pointer (some ⟨5, 37, none⟩)])) w := by kernel_rfl
theorem as_impl37 (w : World) : (ReflectliteType.relation "Implements" ReflectliteType.implements_ #[.agg #[.pointer (some ⟨5, 37, none⟩)], .iface 114 (.agg #[.pointer (some ⟨5, 28, none⟩)])]).run Tryd.prog w = .ok (.bool true) w := by kernel_rfl
theorem as_typeOf (t : Nat) (ht : t = 37 ∨ t = 78 ∨ t = 81 ∨ t = 84 ∨ t = 72 ∨ t = 74 ∨ t = 76) (v : Value) (w : World) : (ReflectliteType.typeOf #[.iface t v]).run Tryd.prog w = .ok (.iface 114 (.agg #[.pointer (some ⟨5, t, none⟩)])) w := by
 rcases ht with rfl | rfl | rfl | rfl | rfl | rfl | rfl <;> kernel_rfl
theorem as_assign37 (w : World) : (ReflectliteType.relation "AssignableTo" ReflectliteType.assignableTo #[.agg #[.pointer (some ⟨5, 37, none⟩)], .iface 114 (.agg #[.pointer (some ⟨5, 37, none⟩)])]).run Tryd.prog w = .ok (.bool true) w := by kernel_rfl
theorem as_assignT (t : Nat) (ht : t = 78 ∨ t = 81 ∨ t = 84 ∨ t = 72 ∨ t = 74 ∨ t = 76) (w : World) : (ReflectliteType.relation "AssignableTo" ReflectliteType.assignableTo #[.agg #[.pointer (some ⟨5, t, none⟩)], .iface 114 (.agg #[.pointer (some ⟨5, 37, none⟩)])]).run Tryd.prog w = .ok (.bool false) w := by
 rcases ht with rfl | rfl | rfl | rfl | rfl | rfl <;> kernel_rfl
theorem as_valueOf37 (e : Addr) (w : World) : (ReflectliteValue.unpack (.iface 37 (.pointer (some e)))).run Tryd.prog w
  = .ok (.agg #[.pointer (some ⟨5, 37, none⟩), .pointer (some ⟨w.heap.size, 0, none⟩), .int .u64 150]) (w.alloc (.cells #[.pointer (some e)] 37)) := by kernel_rfl
theorem as_elemOf39 (w : World) : (Rtype.elem? 39).run Tryd.prog w = .ok (some 37) w := by kernel_rfl
theorem as_mk37 (p : Addr) (w : World) : (ReflectliteValue.mk 37 p ReflectliteValue.flagAddr).run Tryd.prog w = .ok (.agg #[.pointer (some ⟨5, 37, none⟩), .pointer (some p), .int .u64 406]) w := by kernel_rfl
theorem as_parts37a (a : Addr) (w : World) : (ReflectliteValue.parts (.agg #[.pointer (some ⟨5, 37, none⟩), .pointer (some a), .int .u64 406])).run Tryd.prog w = .ok (some (37, a, 406)) w := by kernel_rfl
theorem as_parts37 (a : Addr) (w : World) : (ReflectliteValue.parts (.agg #[.pointer (some ⟨5, 37, none⟩), .pointer (some a), .int .u64 150])).run Tryd.prog w = .ok (some (37, a, 150)) w := by kernel_rfl
theorem as_direct37 (w : World) : (Rtype.directlyAssignable 37 37).run Tryd.prog w = .ok true w := by kernel_rfl
theorem as_rlm (z : Sem Value) (f : TypeId → Addr → Nat → Nat → Sem Value) (v : Value) :
  ReflectliteValue.method z f #[v] = (do match ← ReflectliteValue.parts v with | none => z | some (t, a, fl) => f t a fl (fl % 32)) := rfl
theorem as_isNil39 (a p : Addr) (W : World) (ha : W.cell? a = some (.pointer (some p))) :
  (ReflectliteValue.method (ReflectliteValue.valueError "reflectlite.Value.IsNil" 0) ReflectliteValue.isNil #[.agg #[.pointer (some ⟨5, 39, none⟩), .pointer (some a), .int .u64 150]]).run Tryd.prog W = .ok (.bool false) W := by
 rw [as_rlm]
 simp only [Sem.run_bind, as_parts39, Result.andThen]
 simp [ReflectliteValue.isNil, loadVar, isAgg, underlying, Tryd.underlying39, ha, Result.andThen]
theorem as_elemV39 (a p : Addr) (W : World) (ha : W.cell? a = some (.pointer (some p))) :
  (ReflectliteValue.method (ReflectliteValue.valueError "reflectlite.Value.Elem" 0) ReflectliteValue.elem #[.agg #[.pointer (some ⟨5, 39, none⟩), .pointer (some a), .int .u64 150]]).run Tryd.prog W
   = .ok (.agg #[.pointer (some ⟨5, 37, none⟩), .pointer (some p), .int .u64 406]) W := by
 rw [as_rlm]
 simp only [Sem.run_bind, as_parts39, Result.andThen]
 simp [ReflectliteValue.elem, loadVar, isAgg, underlying, Tryd.underlying39, ha, Result.andThen, as_elemOf39, as_mk37]
theorem as_rls (v x : Value) : ReflectliteValue.set #[v, x] = (do
  let (some (dst, a, fl), some (src, b, _)) := (← ReflectliteValue.parts v, ← ReflectliteValue.parts x)
   | unsupported (.noEntry "extern/(internal/reflectlite.Value).Set.zeroValue")
  if fl / ReflectliteValue.flagAddr % 2 == 0 then unsupported (.noEntry "extern/(internal/reflectlite.Value).Set.unaddressable")
  let val ← loadVar src b
  if ← Rtype.directlyAssignable dst src then storeVar dst a val
  else if ← Rtype.implements dst src then
   if (← Rtype.kind src) == 20 then
    match val with
    | .nilIface => unsupported (.noEntry "extern/reflectlite: a nil value of one interface type handed on as a value of another")
    | _ => storeVar dst a val
   else storeVar dst a (.iface src val)
  else panicString ("reflectlite.Set: value of type " ++ (← Rtype.spelt src) ++ " is not assignable to type " ++ (← Rtype.spelt dst))
  pure (.tuple #[])) := rfl
theorem as_set37 (ta b e : Addr) (old : Value) (W : World) (hb : W.cell? b = some (.pointer (some e))) (ht : W.cell? ta = some old) (hf : W.frozen? ta = false) :
  (ReflectliteValue.set #[.agg #[.pointer (some ⟨5, 37, none⟩), .pointer (some ta), .int .u64 406], .agg #[.pointer (some ⟨5, 37, none⟩), .pointer (some b), .int .u64 150]]).run Tryd.prog W
   = .ok (.tuple #[]) (W.setCell ta (.pointer (some e))) := by
 rw [as_rls]
 simp only [Sem.run_bind, as_parts37a, as_parts37, Result.andThen]
 simp [ReflectliteValue.flagAddr, loadVar, isAgg, underlying, Tryd.underlying37, hb, Result.andThen, as_direct37, storeVar, Value.cells, storeCells, Addr.add]
 rw [Go.run_store Tryd.prog W ta _ _ (by rfl)]
 simp [ht, hf]
theorem setCell_row {W : World} {g : Nat} {t : TypeId} {old v : Value} (h : (blk g t [old]).holds W) : W.setCell ⟨g, 0, none⟩ v = W.setRow g #[v] := by
 have h1 : W.heap[g]? = some (.cells #[old] t (0, 0)) := h
 unfold World.setCell World.setRow
 congr 1
 apply Array.ext
 ·simp
 ·intro i h2 h3
  simp only [Array.getElem_modify]
  split
  ·rename_i e
   subst e
   have h4 : W.heap[g]'(by simpa using h2) = .cells #[old] t (0, 0) := by
    rw [Array.getElem?_eq_getElem (by simpa using h2)] at h1
    exact Option.some.inj h1
   rw [h4]
   rfl
  ·rfl
end Go.Fn
/- errors.as, walked. -/
namespace Go.Fn
open Go Go.Lf Go.Eng Go.RowKit Go.Proofs Go.Extern Go.Extern.Stop Go.Stop
theorem hb_backD {C : Cx} {w w' : World} {ds hs : List Chunk} {I F : World → Prop} (hb : Hb C w ds I) (h : Hb (C.sub w [] ds) w' hs F) : Hb C w' (hs ++ ds) F :=
 (Hb.back (ks := []) (ds := ds) (by simpa using hb) h).imp fun _ h => h.2
theorem unw_callD {C : Cx} {φ : Phi} {w : World} {ds : List Chunk} {t f : Nat} {p : Value} {e e2 : Er} (hk : ∀ w, (callMethod (.iface t p) "Unwrap" #[]).run Tryd.prog w = .ok (.enter f #[p]) w) (hu : Lf.ErR φ e (.iface t p)) (he : mUnwrap e = some e2) (hb : Hb C w ds (Inv GG φ)) :
  Calls Tryd.prog f #[p] w fun x w' => ∃ v φ', x = .returned v ∧ φ.le φ' ∧ Hb C w' ds (Inv GG φ') ∧ Lf.ErR φ' e2 v := by
 obtain ⟨f2, rc, h1, h2⟩ := mUnwrap_iv.ok e e2 he (C.sub w [] ds) φ _ hu (Hb.pass (ks := []) (ds := ds) (by simpa using hb))
 have h3 := (hk w).symm.trans (h1 w)
 injection h3 with h3
 injection h3 with h3 h4
 injection h4 with h4
 injection h4 with h4
 subst h3 h4
 refine h2.mono ?_
 rintro x w' ⟨vv, φ', h1, rfl, hle, hb', hres⟩
 obtain ⟨cs, rfl, h2⟩ := res_one (t := .tr) (x := e2) hres
 obtain ⟨⟨v, rfl, hv⟩, rfl⟩ := h2
 exact ⟨_, φ', rfl, hle, by simpa using hb_backD hb hb', hv⟩
theorem uns_callD {C : Cx} {φ : Phi} {w : World} {ds : List Chunk} {t f : Nat} {p : Value} {e : Er} {l : List Er} (hk : ∀ w, (callMethod (.iface t p) "Unwrap" #[]).run Tryd.prog w = .ok (.enter f #[p]) w) (hu : Lf.ErR φ e (.iface t p)) (he : mUnwraps e = some l) (hb : Hb C w ds (Inv GG φ)) :
  Calls Tryd.prog f #[p] w fun x w' => ∃ A cap us φ', x = .returned (.slice A l.length cap) ∧ φ.le φ' ∧ Hb C w' ds (Inv GG φ') ∧ ErsR φ' l us ∧ RdPhi φ' A l.length us := by
 obtain ⟨f2, rc, h1, h2⟩ := mUnwraps_iv.ok e l he (C.sub w [] ds) φ _ hu (Hb.pass (ks := []) (ds := ds) (by simpa using hb))
 have h3 := (hk w).symm.trans (h1 w)
 injection h3 with h3
 injection h3 with h3 h4
 injection h4 with h4
 injection h4 with h4
 subst h3 h4
 refine h2.mono ?_
 rintro x w' ⟨vv, φ', h1, rfl, hle, hb', hres⟩
 obtain ⟨cs, rfl, h2⟩ := res_one (t := .sl .tr) (x := l) hres
 obtain ⟨A, cap, css, rfl, hlc, hall, hrd, rfl⟩ := h2
 exact ⟨A, cap, _, φ', rfl, hle, by simpa using hb_backD hb hb', ers_of hall, hrd⟩
def fstL (f : Er → Option (Option ErrS.den)) : List Er → Option (Option ErrS.den)
 | [] => some none
 | e :: l => (f e).bind fun | some y => some (some y) | none => fstL f l
noncomputable def fstN : Nat → Er → Option (Option ErrS.den)
 | 0, _ => none
 | _ + 1, .nil => some none
 | n + 1, .nd t bx cs k =>
  bif Nat.beq t 37 && !bx then (match unEr (.st ErrR) cs k with | some y => some (some y) | none => none)
  else bif (Nat.beq t 78 && !bx) || ((Nat.beq t 81 && !bx) || (Nat.beq t 74 && bx)) then (mUnwrap (.nd t bx cs k)).bind (fstN n)
  else bif (Nat.beq t 84 && !bx) || (Nat.beq t 76 && bx) then (mUnwraps (.nd t bx cs k)).bind fun l => bif Nat.ble l.length 1048576 then fstL (fstN n) l else none
  else bif Nat.beq t 72 then some none else none
theorem fstL_drop {f : Er → Option (Option ErrS.den)} {l : List Er} {k : Nat} {e : Er} {o : Option ErrS.den} (h : fstL f (l.drop k) = some o) (he : l[k]? = some e) : (∃ y, f e = some (some y) ∧ o = some y) ∨ (f e = some none ∧ fstL f (l.drop (k + 1)) = some o) := by
 obtain ⟨hlt, rfl⟩ := List.getElem?_eq_some_iff.1 he
 rw [List.drop_eq_getElem_cons hlt] at h
 have h : (f l[k]).bind (fun | some y => some (some y) | none => fstL f (l.drop (k + 1))) = some o := h
 obtain ⟨o1, h1, h2⟩ := Option.bind_eq_some_iff.1 h
 cases o1 with
 | some y => injection h2 with h2; exact .inl ⟨y, h1, h2.symm⟩
 | none => exact .inr ⟨h1, h2⟩
def AsOut (C : Cx) (φ0 : Phi) (g : Nat) (w : World) : Option ErrS.den → Prop
 | none => ∃ φ', φ0.le φ' ∧ Hb C w [blk g 37 [.pointer none]] (Inv GG φ')
 | some y => ∃ φ' ad cells, φ0.le φ' ∧ Hb C w [blk g 37 [.pointer (some ad)]] (Inv GG φ') ∧ Rp φ' ErrS y cells [] ∧ PhiAt φ' ad cells ∧ φ'.b ad.block
theorem AsOut.le {C : Cx} {φ φ' : Phi} {g : Nat} {o : Option ErrS.den} {w : World} (h : AsOut C φ' g w o) (hle : φ.le φ') : AsOut C φ g w o := by
 cases o with
 | none => obtain ⟨φ2, h1, h2⟩ := h; exact ⟨φ2, Phi.le_trans hle h1, h2⟩
 | some y => obtain ⟨φ2, ad, y, h1, h2⟩ := h; exact ⟨φ2, ad, y, Phi.le_trans hle h1, h2⟩
def RdA (C : Cx) (φ0 : Phi) (g : Nat) (n : Nat) (o : Option ErrS.den) (u : Value) (w : World) (m : Nat) : Prop :=
 m ≤ n ∧ ∃ φ e, φ0.le φ ∧ e.isNil = false ∧ fstN m e = some o ∧ Lf.ErR φ e u ∧ Hb C w [blk g 37 [.pointer none]] (Inv GG φ)
theorem as_put {C : Cx} {φ : Phi} {w : World} {g : Nat} {ad : Addr} (hb : Hb C w [blk g 37 [.pointer none]] (Inv GG φ)) :
  (ReflectliteValue.set #[.agg #[.pointer (some ⟨5, 37, none⟩), .pointer (some ⟨g, 0, none⟩), .int .u64 406], .agg #[.pointer (some ⟨5, 37, none⟩), .pointer (some ⟨w.heap.size, 0, none⟩), .int .u64 150]]).run Tryd.prog (w.alloc (.cells #[.pointer (some ad)] 37))
   = .ok (.tuple #[]) ((w.alloc (.cells #[.pointer (some ad)] 37)).setCell ⟨g, 0, none⟩ (.pointer (some ad))) ∧
  ∃ φ', φ.le φ' ∧ Hb C ((w.alloc (.cells #[.pointer (some ad)] 37)).setCell ⟨g, 0, none⟩ (.pointer (some ad))) [blk g 37 [.pointer (some ad)]] (Inv GG φ') := by
 have hb1 : Hb C (w.alloc (.cells #[.pointer (some ad)] 37)) (blk w.heap.size 37 [.pointer (some ad)] :: [blk g 37 [.pointer none]]) (Inv GG φ) := hb.alloc (.cells #[.pointer (some ad)] 37)
 have hh := hb1.hp.hold (blk g 37 [.pointer none]) (by simp)
 have hc : (w.alloc (.cells #[.pointer (some ad)] 37)).cell? ⟨g, 0, none⟩ = some (.pointer none) := by
  have := blk_cell hh (j := 0) (v := .pointer none) rfl
  simpa using this
 have h1 := blk_cell (hb1.hp.hold (blk w.heap.size 37 [.pointer (some ad)]) (by simp)) (j := 0) (v := .pointer (some ad)) rfl
 have hf : (w.alloc (.cells #[.pointer (some ad)] 37)).frozen? ⟨g, 0, none⟩ = false := by
  have h2 : (w.alloc (.cells #[.pointer (some ad)] 37)).heap[g]? = some (.cells #[.pointer none] 37 (0, 0)) := hh
  simp [World.frozen?, h2]
 refine ⟨as_set37 _ _ ad _ _ h1 hc hf, ?_⟩
 obtain ⟨φ1, hle, _, hb2⟩ := freeze_blk hb1
 have hh2 := hb2.hp.hold (blk g 37 [.pointer none]) (by simp)
 rw [setCell_row hh2]
 exact ⟨φ1, hle, hb2.turn (ext_setRow hh2) (setRow_holds (l' := [.pointer (some ad)]) hh2) (fun g hg => .inl ⟨hg, Nat.zero_le _⟩)⟩
theorem as_nil118 (xT : TypeId) (t : Nat) (h : t = 37 ∨ t = 78 ∨ t = 81 ∨ t = 84 ∨ t = 72 ∨ t = 74 ∨ t = 76) (p : Value) (w : World) : (Instr.typeAssert (.iface t p) xT 118 true).run Tryd.prog w = .ok (.tuple #[.nilIface, .bool false]) w := by
 rcases h with rfl | rfl | rfl | rfl | rfl | rfl | rfl <;> exact run_typeAssert_lacksB Tryd.underlying118 (by kernel_rfl) (by kernel_rfl) _ xT w
set_option maxHeartbeats 4000000 in
set_option maxRecDepth 1000000 in
theorem as_walk : ∀ (n : Nat) (e : Er) (o : Option ErrS.den), fstN n e = some o → ∀ (C : Cx) (φ : Phi) (u : Value) (w : World) (g : Nat) (vb : Addr), e.isNil = false → Lf.ErR φ e u → φ vb = some (.pointer (some ⟨g, 0, none⟩)) → Hb C w [blk g 37 [.pointer none]] (Inv GG φ) →
  Calls Tryd.prog 42 #[u, .iface 39 (.pointer (some ⟨g, 0, none⟩)), .agg #[.pointer (some ⟨5, 39, none⟩), .pointer (some vb), .int .u64 150], .iface 114 (.agg #[.pointer (some ⟨5, 37, none⟩)])] w fun x w' => x = .returned (.bool o.isSome) ∧ AsOut C φ g w' o := by
 intro n
 induction n using Nat.strongRecOn with
 | ind n ih =>
 intro e o he C φ u w g vb hnn hu hvb hb
 have IH := hidL ih
 clear ih
 have t28 := Tryd.underlying28; have a28 := Tryd.isAgg28; have z28 := Tryd.sizeOf28; have v28 := Tryd.zeroValue28; have u28 := run_underlying Tryd.underlying28
 have t25 := Tryd.underlying25; have a25 := Tryd.isAgg25; have z25 := Tryd.sizeOf25; have v25 := Tryd.zeroValue25; have u25 := run_underlying Tryd.underlying25
 have t90 := Tryd.underlying90; have a90 := Tryd.isAgg90; have z90 := Tryd.sizeOf90; have v90 := Tryd.zeroValue90; have u90 := run_underlying Tryd.underlying90
 have h39 := @run_callFunc_extern Tryd.prog 39 _ (fun args => ReflectliteValue.unpack (args.getD 0 (.tuple #[]))) Tryd.func39 (by kernel_rfl) (by kernel_rfl) (by kernel_rfl) (by kernel_rfl)
 have h47 := @run_callFunc_extern Tryd.prog 47 _ ReflectliteType.typeOf Tryd.func47 (by kernel_rfl) (by kernel_rfl) (by kernel_rfl) (by kernel_rfl)
 have h105 := @run_callFunc_extern Tryd.prog 105 _ (ReflectliteType.relation "AssignableTo" ReflectliteType.assignableTo) Tryd.func105 (by kernel_rfl) (by kernel_rfl) (by kernel_rfl) (by kernel_rfl)
 have h52 := @run_callFunc_extern Tryd.prog 52 _ (ReflectliteValue.method (ReflectliteValue.valueError "reflectlite.Value.Elem" 0) ReflectliteValue.elem) Tryd.func52 (by kernel_rfl) (by kernel_rfl) (by kernel_rfl) (by kernel_rfl)
 have h53 := @run_callFunc_extern Tryd.prog 53 _ ReflectliteValue.set Tryd.func53 (by kernel_rfl) (by kernel_rfl) (by kernel_rfl) (by kernel_rfl)
 have mA := as_mAssign
 obtain ⟨φ0, hle0, hbx, hb0⟩ := freeze_blk (g := w.heap.size) (tid := 90) (cs := [.pointer (some ⟨5, 39, none⟩), .pointer (some vb), .int .u64 150]) (hb.alloc (.cells #[.pointer (some ⟨5, 39, none⟩), .pointer (some vb), .int .u64 150] 90))
 have hu0 := Lf.ErR.mono hle0 hu
 have hvb0 : φ0 vb = some (.pointer (some ⟨g, 0, none⟩)) := hle0 _ _ hvb
 have b0 : φ0 ⟨w.heap.size, 0, none⟩ = some (.pointer (some ⟨5, 39, none⟩)) := hbx 0 _ rfl
 have b1 : φ0 ⟨w.heap.size, 1, none⟩ = some (.pointer (some vb)) := by simpa [Addr.add] using hbx 1 _ rfl
 have b2 : φ0 ⟨w.heap.size, 2, none⟩ = some (.int .u64 150) := by simpa [Addr.add] using hbx 2 _ rfl
 have h0 : Hid (RdA C φ0 g n o u (w.alloc (.cells #[.pointer (some ⟨5, 39, none⟩), .pointer (some vb), .int .u64 150] 90)) n) := hidL ⟨Nat.le_refl _, φ0, e, φ0.le_refl, hnn, he, hu0, hb0⟩
 have HV := hidL hvb0
 have H0 := hidL b0
 have H1 := hidL b1
 have H2 := hidL b2
 have HL0 := hidL hle0
 clear he hu hb hnn hu0 hb0 hvb0 b0 b1 b2 hbx hvb hle0
 go_enter Tryd.func42, Tryd.ntmps42
 go_wp2_with fail
 go_loopw [0] (fun u wr => Hid (∃ m, RdA C φ0 g n o u wr m)) (fun u wr => leastK (RdA C φ0 g n o u wr))
 case atStart => exact ⟨n, h0.out⟩
 case round =>
  obtain ⟨⟨hmn, φ', e', hle, hnn, he, hu, hb⟩, hmin⟩ := leastK_spec hrel.out
  have HL := hidL hmin
  clear hmin
  generalize hM : leastK (RdA C φ0 g n o u0 wr) = m at hmn he HL
  have HM := hidL hM
  clear hM
  have HB := hidL hb
  clear hb hrel h0
  cases m with
  | zero => cases he
  | succ m =>
  cases e' with
  | nil => cases hnn
  | nd t bx cs k =>
   obtain ⟨p, us, ws, rfl, h2, h3, h4⟩ := hu
   have he2 : (bif Nat.beq t 37 && !bx then (match unEr (.st ErrR) cs k with | some y => some (some y) | none => none)
    else bif (Nat.beq t 78 && !bx) || ((Nat.beq t 81 && !bx) || (Nat.beq t 74 && bx)) then (mUnwrap (.nd t bx cs k)).bind (fstN m)
    else bif (Nat.beq t 84 && !bx) || (Nat.beq t 76 && bx) then (mUnwraps (.nd t bx cs k)).bind fun l => bif Nat.ble l.length 1048576 then fstL (fstN m) l else none
    else bif Nat.beq t 72 then some none else none) = some o := he
   clear he hnn
   cases hE : (Nat.beq t 37 && !bx) with
   | true =>
    rw [hE, cond_true] at he2
    simp only [Bool.and_eq_true, Bool.not_eq_true'] at hE
    obtain ⟨ht, rfl⟩ := hE
    have ht := Nat.eq_of_beq_eq_true ht
    subst ht
    obtain ⟨ad, rfl, hP, hB⟩ := h4
    cases hy : unEr (.st ErrR) cs k with
    | none => rw [hy] at he2; cases he2
    | some y =>
    rw [hy] at he2
    have he : o = some y := by injection he2 with he2; exact he2.symm
    subst he
    have hr := unEr_ok (.st ErrR) cs k y us ws hy h2 h3
    have e47 := as_typeOf 37 (by omega) (.pointer (some ad))
    have e105 := as_assign37
    have e39 := as_valueOf37 ad wr
    obtain ⟨hset, φ1, hle1, hb1⟩ := as_put (ad := ad) HB.out
    have c0 : wr.cell? ⟨w.heap.size, 0, none⟩ = some (.pointer (some ⟨5, 39, none⟩)) := HB.out.get.2 _ _ (hle _ _ H0.out)
    have c1 : wr.cell? ⟨w.heap.size, 1, none⟩ = some (.pointer (some vb)) := HB.out.get.2 _ _ (hle _ _ H1.out)
    have c2 : wr.cell? ⟨w.heap.size, 2, none⟩ = some (.int .u64 150) := HB.out.get.2 _ _ (hle _ _ H2.out)
    have c3 : wr.cell? vb = some (.pointer (some ⟨g, 0, none⟩)) := HB.out.get.2 _ _ (hle _ _ HV.out)
    have e52 := as_elemV39 vb ⟨g, 0, none⟩ wr c3
    have HB1 := hidL hb1
    have HO : Hid (AsOut C φ g ((wr.alloc (.cells #[.pointer (some ad)] 37)).setCell ⟨g, 0, none⟩ (.pointer (some ad))) (some y)) := hidL ⟨φ1, ad, us ++ ws, Phi.le_trans HL0.out (Phi.le_trans hle hle1), hb1, hr.mono hle1, hP.mono hle1, hle1.blk _ hB⟩
    clear he2 hr hy h2 h3 hP hB hb1 hle1 c3 hle
    go_wp2
    go_ret
    exact ⟨rfl, HO.out⟩
   | false =>
    rw [hE, cond_false] at he2
    have c0 : wr.cell? ⟨w.heap.size, 0, none⟩ = some (.pointer (some ⟨5, 39, none⟩)) := HB.out.get.2 _ _ (hle _ _ H0.out)
    have c1 : wr.cell? ⟨w.heap.size, 1, none⟩ = some (.pointer (some vb)) := HB.out.get.2 _ _ (hle _ _ H1.out)
    have c2 : wr.cell? ⟨w.heap.size, 2, none⟩ = some (.int .u64 150) := HB.out.get.2 _ _ (hle _ _ H2.out)
    cases hO : (Nat.beq t 78 && !bx) || ((Nat.beq t 81 && !bx) || (Nat.beq t 74 && bx)) with
    | true =>
     rw [hO, cond_true] at he2
     obtain ⟨e2, q1, q2⟩ := Option.bind_eq_some_iff.1 he2
     have hu : Lf.ErR φ' (.nd t bx cs k) (.iface t p) := ⟨p, us, ws, rfl, h2, h3, h4⟩
     have hts : t = 78 ∨ t = 81 ∨ t = 74 := by
      simp only [Bool.or_eq_true, Bool.and_eq_true] at hO
      rcases hO with h | h | h
      ·exact .inl (Nat.eq_of_beq_eq_true h.1)
      ·exact .inr (.inl (Nat.eq_of_beq_eq_true h.1))
      ·exact .inr (.inr (Nat.eq_of_beq_eq_true h.1))
     clear he2 h2 h3 h4 hE hO
     have e47 := as_typeOf t (by omega) p
     have e105 := as_assignT t (by omega)
     have e118 := as_nil118 28 t (by omega) p
     obtain ⟨f, hie, hoe, hmt, hcf, hcm⟩ := one_facts hts p
     have hcall := hidL (unw_callD (C := C) (f := f) hcm hu q1 HB.out)
     clear hu q1 hts hcm
     go_wp2_with (refine hcall.out.mono ?_)
     rintro x w1 ⟨v, φ1, rfl, hle1, hb1, hv⟩
     have HB1 := hidL (Phi.le_trans hle hle1)
     have HB2 := hidL hb1
     clear hle1 hb1 hcall
     cases e2 with
     | nil =>
      have hv : v = .nilIface := hv
      have ho : o = none := by
       cases m with
       | zero => cases q2
       | succ m => injection q2 with q2; exact q2.symm
      subst hv ho
      clear q2
      go_wp2
      go_ret
      exact ⟨rfl, φ1, Phi.le_trans HL0.out HB1.out, HB2.out⟩
     | nd t2 bx2 cs2 k2 =>
      have hv2 := hidL hv
      obtain ⟨p2, us2, ws2, rfl, _⟩ := hv
      have Q2 := hidL q2
      clear q2
      go_wp2
      have hR : RdA C φ0 g n o (.iface t2 p2) w1 m := ⟨by omega, φ1, _, HB1.out, rfl, Q2.out, hv2.out, HB2.out⟩
      refine ⟨hidL ⟨m, hR⟩, ?_⟩
      rw [HM.out]
      have := (leastK_spec ⟨m, hR⟩).2 m hR
      omega
    | false =>
    rw [hO, cond_false] at he2
    cases hY : (Nat.beq t 84 && !bx) || (Nat.beq t 76 && bx) with
    | true =>
     rw [hY, cond_true] at he2
     obtain ⟨l, q1, q2⟩ := Option.bind_eq_some_iff.1 he2
     cases hlen : Nat.ble l.length 1048576 with
     | false => rw [hlen] at q2; cases q2
     | true =>
     rw [hlen, cond_true] at q2
     have hlen := Nat.le_of_ble_eq_true hlen
     have hu : Lf.ErR φ' (.nd t bx cs k) (.iface t p) := ⟨p, us, ws, rfl, h2, h3, h4⟩
     have hts : t = 84 ∨ t = 76 := by
      simp only [Bool.or_eq_true, Bool.and_eq_true] at hY
      rcases hY with h | h
      ·exact .inl (Nat.eq_of_beq_eq_true h.1)
      ·exact .inr (Nat.eq_of_beq_eq_true h.1)
     clear he2 h2 h3 h4 hE hO hY
     have e47 := as_typeOf t (by omega) p
     have e105 := as_assignT t (by omega)
     have e118 := as_nil118 28 t (by omega) p
     obtain ⟨f, hie, hoe, hme, hmt, hcf, hcm⟩ := many_facts hts p
     have hcall := hidL (uns_callD (C := C) (f := f) hcm hu q1 HB.out)
     clear hu q1 hts hcm
     go_wp2_with (refine hcall.out.mono ?_)
     rintro x w1 ⟨A, cap, us1, φ1, rfl, hle1, hb1, hers, hrd⟩
     have HB1 := hidL (Phi.le_trans hle hle1)
     have HB2 := hidL hb1
     have HE := hidL hers
     have HR := hidL hrd
     have Q2 := hidL q2
     clear hle1 hb1 hcall hers hrd q2 hmt hcf e47 e105 e118 hie hoe hme c0 c1 c2
     go_wp2_with fail
     go_loopw [50] (fun i wk => ∃ j : Nat, j ≤ l.length ∧ i = .int .i64 j ∧ Hid (∃ φ2, φ1.le φ2 ∧ Hb C wk [blk g 37 [.pointer none]] (Inv GG φ2) ∧ fstL (fstN m) (l.drop j) = some o)) (fun i _ => l.length - (intOf i).toNat)
     case atStart => exact ⟨0, Nat.zero_le _, rfl, φ1, φ1.le_refl, HB2.out, by simpa using Q2.out⟩
     case round =>
      obtain ⟨j, hj, rfl, hK⟩ := hrel
      obtain ⟨φ2, hle2, hb2, hany⟩ := hK.out
      have HL2 := hidL hle2
      have HB3 := hidL hb2
      have c0 : wr.cell? ⟨w.heap.size, 0, none⟩ = some (.pointer (some ⟨5, 39, none⟩)) := HB3.out.get.2 _ _ (hle2 _ _ (HB1.out _ _ H0.out))
      have c1 : wr.cell? ⟨w.heap.size, 1, none⟩ = some (.pointer (some vb)) := HB3.out.get.2 _ _ (hle2 _ _ (HB1.out _ _ H1.out))
      have c2 : wr.cell? ⟨w.heap.size, 2, none⟩ = some (.int .u64 150) := HB3.out.get.2 _ _ (hle2 _ _ (HB1.out _ _ H2.out))
      clear hK hb2
      by_cases hjl : j < l.length
      ·obtain ⟨ej, hej⟩ : ∃ ej, l[j]? = some ej := ⟨_, List.getElem?_eq_getElem hjl⟩
       obtain ⟨uj, hu1, hu2⟩ := ers_get HE.out hej
       have hdr := fstL_drop hany hej
       obtain ⟨ad, rfl, hP⟩ := HR.out (by omega)
       have hcell : wr.cell? (ad.add j) = some uj := HB3.out.get.2 _ _ (hle2 _ _ (hP j uj hu1))
       have HJ := hidL hjl
       cases ej with
       | nil =>
        have hu2 : uj = .nilIface := hu2
        subst hu2
        have hrest : fstL (fstN m) (l.drop (j + 1)) = some o := by
         rcases hdr with ⟨y, h1, _⟩ | h1
         ·cases m with
          | zero => cases h1
          | succ m => cases h1
         ·exact h1.2
        have R3 := hidL hrest
        clear hej hu1 hany hdr hP hle2 hrest
        go_wp2
        have hj3 := HJ.out
        exact ⟨⟨j + 1, by omega, by go_num, hidL ⟨φ2, HL2.out, HB3.out, R3.out⟩⟩, by simp [intOf]; omega⟩
       | nd t1 bx1 cs1 k1 =>
        have hu3 := hidL hu2
        obtain ⟨p1, _, _, rfl, _⟩ := hu2
        have hvb2 := hle2 _ _ (HB1.out _ _ HV.out)
        have R3 := hidL hdr
        have hcall2 := hidL fun o1 (h1 : fstN m (.nd t1 bx1 cs1 k1) = some o1) => IH.out m (by omega) _ o1 h1 C φ2 (.iface t1 p1) wr g vb rfl (Lf.ErR.mono hle2 hu3.out) hvb2 HB3.out
        clear hej hu1 hany hdr hP hle2 hvb2 hu3
        rcases R3.out with ⟨y, hy1, hy2⟩ | ⟨hy1, hy2⟩
        ·subst hy2
         have hcall3 := hidL (hcall2.out _ hy1)
         clear hcall2 R3 hy1
         go_wp2_with (go_at_call 42; refine hcall3.out.mono ?_)
         rintro x w2 ⟨rfl, hao⟩
         have HAO := hidL hao
         clear hao hcall3
         go_wp2
         go_ret
         exact ⟨rfl, HAO.out.le (Phi.le_trans HL0.out (Phi.le_trans HB1.out HL2.out))⟩
        ·have hcall3 := hidL (hcall2.out _ hy1)
         have HY := hidL hy2
         clear hcall2 R3 hy1 hy2
         go_wp2_with (go_at_call 42; refine hcall3.out.mono ?_)
         rintro x w2 ⟨rfl, φ3, hle3, hb3⟩
         have HL3 := hidL (Phi.le_trans HL2.out hle3)
         have HB4 := hidL hb3
         clear hle3 hb3 hcall3
         go_wp2
         have hj3 := HJ.out
         exact ⟨⟨j + 1, by omega, by go_num, hidL ⟨φ3, HL3.out, HB4.out, HY.out⟩⟩, by simp [intOf]; omega⟩
      ·have hjl : j = l.length := by omega
       subst hjl
       have ho : o = none := by
        rw [List.drop_length] at hany
        injection hany with hany
        exact hany.symm
       subst ho
       clear hany hle2
       go_wp2
       go_ret
       exact ⟨rfl, φ2, Phi.le_trans HL0.out (Phi.le_trans HB1.out HL2.out), HB3.out⟩
    | false =>
     rw [hY, cond_false] at he2
     cases hZ : Nat.beq t 72 with
     | false => rw [hZ] at he2; cases he2
     | true =>
      have ht := Nat.eq_of_beq_eq_true hZ
      subst ht
      rw [hZ, cond_true] at he2
      have ho : o = none := by injection he2 with he2; exact he2.symm
      subst ho
      have e47 := as_typeOf 72 (by omega) p
      have e105 := as_assignT 72 (by omega)
      have e118 := as_nil118 28 72 (by omega) p
      have e3 : (Instr.typeAssert (.iface 72 p) 28 121 true).run Tryd.prog wr = .ok (.tuple #[.nilIface, .bool false]) wr := run_typeAssert_lacksB Tryd.underlying121 (by kernel_rfl) (by kernel_rfl) _ 28 wr
      have e4 : (Instr.typeAssert (.iface 72 p) 28 123 true).run Tryd.prog wr = .ok (.tuple #[.nilIface, .bool false]) wr := run_typeAssert_lacksB Tryd.underlying123 (by kernel_rfl) (by kernel_rfl) _ 28 wr
      clear he2 h2 h3 h4 hE hO hY hZ
      go_wp2
      go_ret
      exact ⟨rfl, φ', Phi.le_trans HL0.out hle, HB.out⟩
end Go.Fn
/- errors.As, walked. -/
namespace Go.Fn
open Go Go.Lf Go.Eng Go.RowKit Go.Proofs Go.Extern Go.Extern.Stop Go.Stop
set_option maxHeartbeats 4000000 in
set_option maxRecDepth 1000000 in
theorem ea_walk (n : Nat) (e : Er) (o : Option ErrS.den) (he : fstN n e = some o) (C : Cx) (φ : Phi) (u : Value) (w : World) (g : Nat) (hu : Lf.ErR φ e u) (hb : Hb C w [blk g 37 [.pointer none]] (Inv GG φ)) :
  Calls Tryd.prog 18 #[u, .iface 39 (.pointer (some ⟨g, 0, none⟩))] w fun x w' => x = .returned (.bool o.isSome) ∧ AsOut C φ g w' o := by
 have t28 := Tryd.underlying28; have a28 := Tryd.isAgg28; have z28 := Tryd.sizeOf28; have v28 := Tryd.zeroValue28; have u28 := run_underlying Tryd.underlying28
 cases e with
 | nil =>
  have hu : u = .nilIface := hu
  have ho : o = none := by
   cases n with
   | zero => cases he
   | succ n => injection he with he; exact he.symm
  subst hu ho
  clear he
  have HB := hidL hb
  clear hb
  go_enter Tryd.func18, Tryd.ntmps18
  go_wp2
  go_ret
  exact ⟨rfl, φ, φ.le_refl, HB.out⟩
 | nd t bx cs k =>
  have t20 := Tryd.underlying20; have a20 := Tryd.isAgg20; have z20 := Tryd.sizeOf20; have v20 := Tryd.zeroValue20; have u20 := run_underlying Tryd.underlying20
  have t90 := Tryd.underlying90; have a90 := Tryd.isAgg90; have z90 := Tryd.sizeOf90; have v90 := Tryd.zeroValue90; have u90 := run_underlying Tryd.underlying90
  have t93 := Tryd.underlying93; have a93 := Tryd.isAgg93; have z93 := Tryd.sizeOf93; have v93 := Tryd.zeroValue93; have u93 := run_underlying Tryd.underlying93
  have h39 := @run_callFunc_extern Tryd.prog 39 _ (fun args => ReflectliteValue.unpack (args.getD 0 (.tuple #[]))) Tryd.func39 (by kernel_rfl) (by kernel_rfl) (by kernel_rfl) (by kernel_rfl)
  have h40 := @run_callFunc_extern Tryd.prog 40 _ (ReflectliteValue.methodAny (ReflectliteValue.valueError "reflectlite.Value.Type" 0) (fun t _ _ _ => ReflectliteType.toType t)) Tryd.func40 (by kernel_rfl) (by kernel_rfl) (by kernel_rfl) (by kernel_rfl)
  have h41 := @run_callFunc_extern Tryd.prog 41 _ (ReflectliteValue.method (ReflectliteValue.valueError "reflectlite.Value.IsNil" 0) ReflectliteValue.isNil) Tryd.func41 (by kernel_rfl) (by kernel_rfl) (by kernel_rfl) (by kernel_rfl)
  have h81 := @run_callFunc_extern Tryd.prog 81 _ (ReflectliteType.abiMethod fun t => do pure (.int .u8 (← Rtype.kind t))) Tryd.func81 (by kernel_rfl) (by kernel_rfl) (by kernel_rfl) (by kernel_rfl)
  have h107 := @run_callFunc_extern Tryd.prog 107 _ (ReflectliteType.method ReflectliteType.elem) Tryd.func107 (by kernel_rfl) (by kernel_rfl) (by kernel_rfl) (by kernel_rfl)
  have h108 := @run_callFunc_extern Tryd.prog 108 _ (ReflectliteType.relation "Implements" ReflectliteType.implements_) Tryd.func108 (by kernel_rfl) (by kernel_rfl) (by kernel_rfl) (by kernel_rfl)
  have f39 := as_valueOf39 ⟨g, 0, none⟩ w
  have f40 := as_type39
  have mK := as_mKind
  have mE := as_mElem
  have mI := as_mImpl
  have k39 := as_kind39
  have k37 := as_kind37
  have e39 := as_elem39
  have i37 := as_impl37
  obtain ⟨φ1, hle1, hv1, hb1⟩ := freeze_blk (g := w.heap.size) (tid := 39) (cs := [.pointer (some ⟨g, 0, none⟩)]) (hb.alloc (.cells #[.pointer (some ⟨g, 0, none⟩)] 39))
  have hb2 := hb1.alloc (.cells #[.pointer (some ⟨5, 39, none⟩), .pointer (some ⟨w.heap.size, 0, none⟩), .int .u64 150] 90)
  obtain ⟨φ2, hle2, hv2, hb3⟩ := freeze_blk (g := w.heap.size + 1) (tid := 90) (cs := [.pointer (some ⟨5, 39, none⟩), .pointer (some ⟨w.heap.size, 0, none⟩), .int .u64 150]) (by simpa using hb2)
  have hc0 := hb3.get.2 ⟨w.heap.size, 0, none⟩ (.pointer (some ⟨g, 0, none⟩)) (hle2 _ _ (hv1 0 _ rfl))
  have n41 := as_isNil39 ⟨w.heap.size, 0, none⟩ ⟨g, 0, none⟩ _ hc0
  have hgl := hb3.get.1.2
  have hcall := hidL fun φ3 w3 (h2 : φ2.le φ3) h3 => as_walk n (.nd t bx cs k) o he C φ3 u w3 g ⟨w.heap.size, 0, none⟩ rfl (Lf.ErR.mono (Phi.le_trans hle1 (Phi.le_trans hle2 h2)) hu) (h2 _ _ (hle2 _ _ (hv1 0 _ rfl))) h3
  obtain ⟨p, us, ws, rfl, _⟩ := hu
  have HB := hidL hb3
  have HL := hidL (Phi.le_trans hle1 hle2)
  clear hb hb1 hb2 hb3 he hv1 hv2 hc0 hle1 hle2
  go_enter Tryd.func18, Tryd.ntmps18
  go_wp2_with (go_at_call 42; refine (hcall.out φ2 _ φ2.le_refl HB.out).mono ?_)
  rintro x w1 ⟨rfl, hao⟩
  have HAO := hidL hao
  clear hao hcall
  go_wp2
  go_ret
  exact ⟨rfl, HAO.out.le HL.out⟩
end Go.Fn
open Go Go.Lf
set_option maxRecDepth 10000
namespace Go.Fn
abbrev oY0 : Lf.Ty := (.pr .str (.pr (.sl (.st (.pr .str (.pr (.int .i64) .unit)))) .unit))
abbrev oY1 : Lf.Ty := (.pr (.int .i64) (.pr (.int .i64) (.pr (.int .i64) (.pr (.int .i64) oY0))))
def TysO : List (Nat × Lf.TyI) := [(2, ⟨(.int .i64), 0, 0⟩),
 (3, ⟨(.int .i64), 0, 0⟩),
 (4, ⟨.bool, 0, 0⟩),
 (9, ⟨.str, 0, 0⟩),
 (11, ⟨.str, 0, 0⟩),
 (13, ⟨(.st (.pr .str (.pr (.int .u64) .unit))), 0, 0⟩),
 (14, ⟨(.st (.pr .str (.pr (.int .u64) .unit))), 0, 0⟩),
 (21, ⟨(.int .i32), 0, 0⟩),
 (40, ⟨(.int .i64), 0, 0⟩),
 (43, ⟨(.st oY1), 0, 0⟩),
 (60, ⟨(.st (.pr (.int .i64) (.pr (.st oY1) .unit))), 0, 0⟩),
 (27, ⟨.tr, 0, 0⟩),
 (28, ⟨.tr, 0, 0⟩),
 (37, ⟨(.ptr (.st (.pr (.int .i64) (.pr (.st oY1) .unit)))), 0, 0⟩),
 (78, ⟨(.ptr (.st (.pr (.st (.pr .str (.pr (.int .i64) .unit))) (.pr .tr .unit)))), 0, 0⟩),
 (81, ⟨(.ptr (.st (.pr (.int .i64) (.pr .tr .unit)))), 0, 0⟩),
 (84, ⟨(.ptr (.st (.pr (.sl .tr) .unit))), 0, 0⟩),
 (121, ⟨.tr, 0, 0⟩),
 (123, ⟨.tr, 0, 0⟩),
 (125, ⟨.tr, 0, 0⟩),
 (126, ⟨.tr, 0, 0⟩),
 (127, ⟨.tr, 0, 0⟩)]
theorem TysO_ok : ∀ id i, Lf.look TysO id = some i → Lf.TyOk Proofs.Tryd.prog id i := Lf.tysB_ok (by kernel_rfl)
def TysOEq : List (Nat × Lf.Ty) := []
theorem TysOEq_ok : ∀ id t, Lf.look TysOEq id = some t → Lf.eqTop Proofs.Tryd.prog id t = true := Lf.eqsB_ok (by kernel_rfl)
def TysOIm : List (Nat × List (Nat × Bool)) := [(125, [(37, false), (78, true), (81, true), (84, false), (72, false), (74, true), (76, false)]), (126, [(37, false), (78, false), (81, false), (84, true), (72, false), (74, false), (76, true)])]
theorem TysOIm_ok : ∀ a l, Lf.look TysOIm a = some l → Lf.ImOk Proofs.Tryd.prog a l := Lf.imsB_ok (by kernel_rfl)
noncomputable def fault_NewCtx : Lf.Ctx := ⟨22, TysO, [], [], [21], [(21, .tr)], [], TysOEq, [], none, TysOIm, []⟩
noncomputable def fault_NewCode : Go.Code := (Proofs.Tryd.f33.body).getD .skip
def fault_NewAnn : Lf.Ann := .no
noncomputable def fault_New (a0 : Int) (a1 : Int) (a2 : Int) (a3 : Int) (a4 : List (UInt8)) : Option (Lf.Er) :=
 bif (decide ((a0 : Int) = (0 : Int))) then some Lf.Er.nil
 else some (Lf.Er.nd (37 : Nat) false ((Lf.Ec.v (Go.Value.int .i64 (1 : Int))) :: ((Lf.Ec.v (Go.Value.int .i64 a0)) :: ((Lf.Ec.v (Go.Value.int .i64 a1)) :: ((Lf.Ec.v (Go.Value.int .i64 a2)) :: ((Lf.Ec.v (Go.Value.int .i64 a3)) :: ((Lf.Ec.v (Go.Eng.str a4)) :: (Lf.Ec.e :: ([] : List (Lf.Ec))))))))) Lf.Tl.no)
theorem fault_New_eq (a0 : Int) (a1 : Int) (a2 : Int) (a3 : Int) (a4 : List (UInt8)) : Lf.fnE fault_NewCtx fault_NewCode fault_NewAnn [.val (.int .i64), .val (.int .i64), .val (.int .i64), .val (.int .i64), .val .str] [.tr] [.tmp 10] (a0, a1, a2, a3, a4) = fault_New a0 a1 a2 a3 a4 := by kernel_rfl
noncomputable def fault_NewEnt : Nat × Lf.Entry := (33, ⟨[.val (.int .i64), .val (.int .i64), .val (.int .i64), .val (.int .i64), .val .str], [.tr], fun z => fault_New z.1 z.2.1 z.2.2.1 z.2.2.2.1 z.2.2.2.2⟩)
theorem fault_New_ok : Lf.EntryOk Proofs.Tryd.prog GG 33 fault_NewEnt.2 :=
  Lf.fn_ok (c := fault_NewCtx) (code := fault_NewCode) (an := fault_NewAnn) (slots := [.tmp 10]) (fn := Proofs.Tryd.f33) (by kernel_rfl) ⟨TysO_ok, Lf.FnsOk.look .nil, Lf.IpsOk.look .nil, TysOEq_ok, TysOIm_ok, Lf.IvsOk.look .nil, Lf.FxsOk.look .nil⟩ (by kernel_rfl) (by kernel_rfl) (by kernel_rfl) (by kernel_rfl) (by kernel_rfl) (Nat.le_of_ble_eq_true rfl) (by simp [Lf.Ty.top]) (by simp [Lf.Ty.top]) fun z r h => (fault_New_eq z.1 z.2.1 z.2.2.1 z.2.2.2.1 z.2.2.2.2).trans h
end Go.Fn
/- fault.Is, as an entry. -/
namespace Go.Fn
open Go Go.Lf Go.Eng Go.RowKit Go.Proofs Go.Extern Go.Extern.Stop Go.Stop
end Go.Fn
