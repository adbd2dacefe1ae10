/-
  Operations that leave all but their slot as it is.
-/
import Derived.Test.YtkfcinmgebhbhaaDoorQSnd1
import Derived.Test.YtkfcinmgebhbhaaDoorQMore
namespace Go.Lf
open Go Go.Eng

theorem append_inj3 {α : Type} {a b c a' b' c' : List α} (h : a ++ b ++ c = a' ++ b' ++ c') (h1 : a.length = a'.length) (h2 : b.length = b'.length) : a = a' ∧ b = b' ∧ c = c' := by
  rw [List.append_assoc, List.append_assoc] at h
  obtain ⟨e1, e2⟩ := List.append_inj h h1
  obtain ⟨e3, e4⟩ := List.append_inj e2 h2
  exact ⟨e1, e3, e4⟩

theorem getP_ok {φ : Phi} : ∀ {t : Ty} {p : List Dir} {x : t.den} {y : Dn} {cs : List Value} {h : List Chunk}, getP t p x = some y → Rp φ t x cs h →
    ∃ pre mid post h1 h2 h3, cs = pre ++ mid ++ post ∧ pre.length = offP t p ∧ h = h1 ++ h2 ++ h3 ∧ Rp φ y.1 y.2 mid h2
  | t, [], x, y, cs, h => by
    intro e r
    have : y = ⟨t, x⟩ := by unfold getP at e; simpa using e.symm
    subst this
    exact ⟨[], cs, [], [], h, [], by simp, by cases t <;> rfl, by simp, r⟩
  | .st t, .i :: p, x, y, cs, h => fun e r => by
    obtain ⟨pre, mid, post, h1, h2, h3, q1, q2, q3, q4⟩ := getP_ok (t := t) (p := p) e r
    exact ⟨pre, mid, post, h1, h2, h3, q1, q2, q3, q4⟩
  | .pr a b, .l :: p, x, y, cs, h => fun e r => by
    obtain ⟨c1, c2, k1, k2, e1, e2, r1, r2⟩ := r
    obtain ⟨pre, mid, post, h1, h2, h3, q1, q2, q3, q4⟩ := getP_ok (t := a) (p := p) e r1
    exact ⟨pre, mid, post ++ c2, h1, h2, h3 ++ k2, by rw [e1, q1]; simp, q2, by rw [e2, q3]; simp, q4⟩
  | .pr a b, .r :: p, x, y, cs, h => fun e r => by
    obtain ⟨c1, c2, k1, k2, e1, e2, r1, r2⟩ := r
    obtain ⟨pre, mid, post, h1, h2, h3, q1, q2, q3, q4⟩ := getP_ok (t := b) (p := p) e r2
    exact ⟨c1 ++ pre, mid, post, k1 ++ h1, h2, h3, by rw [e1, q1]; simp, by rw [List.length_append, q2, r1.len]; rfl, by rw [e2, q3]; simp, q4⟩
  | .int _, _ :: _, _, _, _, _ => fun e _ => by simp [getP, setP, getTy] at e
  | .bool, _ :: _, _, _, _, _ => fun e _ => by simp [getP, setP, getTy] at e
  | .str, _ :: _, _, _, _, _ => fun e _ => by simp [getP, setP, getTy] at e
  | .unit, _ :: _, _, _, _, _ => fun e _ => by simp [getP, setP, getTy] at e
  | .dead _ _, _ :: _, _, _, _, _ => fun e _ => by simp [getP, setP, getTy] at e
  | .sl _, _ :: _, _, _, _, _ => fun e _ => by simp [getP, setP, getTy] at e
  | .rw _ _, _ :: _, _, _, _, _ => fun e _ => by simp [getP, setP, getTy] at e
  | .mr _ _, _ :: _, _, _, _, _ => fun e _ => by simp [getP, setP, getTy] at e
  | .ptr _, _ :: _, _, _, _, _ => fun e _ => by simp [getP, setP, getTy] at e
  | .eb _ _, _ :: _, _, _, _, _ => fun e _ => by simp [getP, setP, getTy] at e
  | .st _, .l :: _, _, _, _, _ => fun e _ => by cases e
  | .st _, .r :: _, _, _, _, _ => fun e _ => by cases e
  | .pr _ _, .i :: _, _, _, _, _ => fun e _ => by cases e

theorem setP_ok {φ : Phi} : ∀ {t : Ty} {p : List Dir} {y : Dn} {x : t.den} {z : Dn} {cs : List Value} {h : List Chunk}, setP t p y x = some z → Rp φ t x cs h →
    ∃ pre mid post h1 h2 h3 s, getP t p x = some s ∧ y.1.er = s.1.er ∧ cs = pre ++ mid ++ post ∧ pre.length = offP t p ∧ h = h1 ++ h2 ++ h3 ∧ Rp φ s.1 s.2 mid h2 ∧ z.1.er = t.er ∧ offP z.1 p = offP t p ∧
      ∀ ψ mid' h2', φ.le ψ → Rp ψ y.1 y.2 mid' h2' → Rp ψ z.1 z.2 (pre ++ mid' ++ post) (h1 ++ h2' ++ h3)
  | t, [], y, x, z, cs, h => by
    intro e r
    unfold setP at e
    split at e
    · rename_i he
      simp only [Option.some.injEq] at e
      subst e
      refine ⟨[], cs, [], [], h, [], ⟨t, x⟩, by unfold getP; rfl, he, by simp, by cases t <;> rfl, by simp, r, he, ?_, fun ψ mid' h2' _ r' => by simpa using r'⟩
      cases t <;> (cases y; rename_i s _; cases s <;> rfl)
    · cases e
  | .st t, .i :: p, y, x, z, cs, h => fun e r => by
    unfold setP at e
    split at e
    · rename_i z' hz
      simp only [Option.some.injEq] at e
      subst e
      obtain ⟨pre, mid, post, h1, h2, h3, s, q0, q1, q2, q3, q4, q5, q6, q7, q8⟩ := setP_ok (t := t) (p := p) hz r
      exact ⟨pre, mid, post, h1, h2, h3, s, q0, q1, q2, q3, q4, q5, by simp [Ty.er, q6], q7, q8⟩
    · cases e
  | .pr a b, .l :: p, y, x, z, cs, h => fun e r => by
    unfold setP at e
    split at e
    · rename_i z' hz
      simp only [Option.some.injEq] at e
      subst e
      obtain ⟨c1, c2, k1, k2, e1, e2, r1, r2⟩ := r
      obtain ⟨pre, mid, post, h1, h2, h3, s, q0, q1, q2, q3, q4, q5, q6, q7, q8⟩ := setP_ok (t := a) (p := p) hz r1
      refine ⟨pre, mid, post ++ c2, h1, h2, h3 ++ k2, s, q0, q1, by rw [e1, q2]; simp, q3, by rw [e2, q4]; simp, q5, by simp [Ty.er, q6], q7, fun ψ mid' h2' hle r' => ?_⟩
      exact ⟨pre ++ mid' ++ post, c2, h1 ++ h2' ++ h3, k2, by simp, by simp, q8 ψ mid' h2' hle r', r2.mono hle⟩
    · cases e
  | .pr a b, .r :: p, y, x, z, cs, h => fun e r => by
    unfold setP at e
    split at e
    · rename_i z' hz
      simp only [Option.some.injEq] at e
      subst e
      obtain ⟨c1, c2, k1, k2, e1, e2, r1, r2⟩ := r
      obtain ⟨pre, mid, post, h1, h2, h3, s, q0, q1, q2, q3, q4, q5, q6, q7, q8⟩ := setP_ok (t := b) (p := p) hz r2
      refine ⟨c1 ++ pre, mid, post, k1 ++ h1, h2, h3, s, q0, q1, by rw [e1, q2]; simp, by rw [List.length_append, q3, r1.len]; rfl, by rw [e2, q4]; simp, q5, by simp [Ty.er, q6], ?_, fun ψ mid' h2' hle r' => ?_⟩
      · show a.size + offP z'.1 p = a.size + offP b p
        rw [q7]
      · exact ⟨c1, pre ++ mid' ++ post, k1, h1 ++ h2' ++ h3, by simp, by simp, r1.mono hle, q8 ψ mid' h2' hle r'⟩
    · cases e
  | .int _, _ :: _, _, _, _, _, _ => fun e _ => by simp [getP, setP, getTy] at e
  | .bool, _ :: _, _, _, _, _, _ => fun e _ => by simp [getP, setP, getTy] at e
  | .str, _ :: _, _, _, _, _, _ => fun e _ => by simp [getP, setP, getTy] at e
  | .unit, _ :: _, _, _, _, _, _ => fun e _ => by simp [getP, setP, getTy] at e
  | .dead _ _, _ :: _, _, _, _, _, _ => fun e _ => by simp [getP, setP, getTy] at e
  | .sl _, _ :: _, _, _, _, _, _ => fun e _ => by simp [getP, setP, getTy] at e
  | .rw _ _, _ :: _, _, _, _, _, _ => fun e _ => by simp [getP, setP, getTy] at e
  | .mr _ _, _ :: _, _, _, _, _, _ => fun e _ => by simp [getP, setP, getTy] at e
  | .ptr _, _ :: _, _, _, _, _, _ => fun e _ => by simp [getP, setP, getTy] at e
  | .eb _ _, _ :: _, _, _, _, _, _ => fun e _ => by simp [getP, setP, getTy] at e
  | .st _, .l :: _, _, _, _, _, _ => fun e _ => by cases e
  | .st _, .r :: _, _, _, _, _, _ => fun e _ => by cases e
  | .pr _ _, .i :: _, _, _, _, _, _ => fun e _ => by cases e

/-- a field's cells -/
def zcells : Ty → List Value
  | .int k => [.int k 0]
  | .bool => [.bool false]
  | .str => [Eng.str []]
  | .unit => []
  | .dead _ _ => [.slice none 0 0]
  | .sl _ => [.slice none 0 0]
  | .rw _ _ => [.slice none 0 0]
  | .mr _ _ => [.slice none 0 0]
  | .ptr _ => [.pointer none]
  | .eb _ _ => [.nilIface]
  | .st t => zcells t
  | .pr a b => zcells a ++ zcells b

/-- What a type's number is in the program. -/
structure TyOk (P : Program) (id : Nat) (i : TyI) : Prop where
  frz : i.ty = i.ty.er
  sz : tSz P id i.ty.size = true
  sc : (∀ t, i.ty ≠ .st t) → tSc P id = true
  int : ∀ k, i.ty = .int k → tInt P id k = true
  bool : i.ty = .bool → tBo P id = true
  str : i.ty = .str → tStr P id = true
  sl : ∀ t, i.ty = .sl t → tSl P id i.el t.size = true ∧ AppTy P id i.el t.size i.sz ∧ (t = .int .u8 → tByt P id i.el = true) ∧ t = t.er ∧ 0 < i.sz ∧ ((Lf.zero t).isSome = true → tZ P i.el (zcells t))
  agt : ∀ t, i.ty = .st t → tAg P id t.size = true
  ag : ∀ t, i.ty = .st t → i.sz = 0 → (∀ f, f < nf t → tFo P id f (offP t (fpath t f)) = true) ∧ ∃ fs, P.underlying id = some (.struct fs) ∧ tStruct P fs = true ∧ ∀ f s, f < nf t → getTy t (fpath t f) = some s → tFz P id f s.size = true
  ar : ∀ t, i.ty = .st t → 0 < i.sz → ∃ a, t = arT a i.sz ∧ P.underlying id = some (.array i.sz i.el) ∧ tSz P i.el a.size = true ∧ ((∀ b, a ≠ .st b) → tSc P i.el = true) ∧ (∀ b, a = .st b → tAg P i.el b.size = true)
  eb : ∀ te t, i.ty = .eb te t → tIf P id = true
  ptr : ∀ t, i.ty = .ptr t → tPt P id = true
  un : ∃ ds, P.underlying id = some ds
  zero : (zero i.ty).isSome = true → tZ P id (zcells i.ty)

theorem getTy_ok : ∀ {t : Ty} {p : List Dir} {x : t.den} {y : Dn}, getP t p x = some y → getTy t p = some y.1
  | t, [], x, y => fun e => by
    have : y = ⟨t, x⟩ := by unfold getP at e; simpa using e.symm
    subst this; unfold getTy; rfl
  | .st t, .i :: p, x, y => fun e => getTy_ok (t := t) (p := p) e
  | .pr a b, .l :: p, x, y => fun e => getTy_ok (t := a) (p := p) e
  | .pr a b, .r :: p, x, y => fun e => getTy_ok (t := b) (p := p) e
  | .int _, _ :: _, _, _ => fun e => by simp [getP, setP, getTy] at e
  | .bool, _ :: _, _, _ => fun e => by simp [getP, setP, getTy] at e
  | .str, _ :: _, _, _ => fun e => by simp [getP, setP, getTy] at e
  | .unit, _ :: _, _, _ => fun e => by simp [getP, setP, getTy] at e
  | .dead _ _, _ :: _, _, _ => fun e => by simp [getP, setP, getTy] at e
  | .sl _, _ :: _, _, _ => fun e => by simp [getP, setP, getTy] at e
  | .rw _ _, _ :: _, _, _ => fun e => by simp [getP, setP, getTy] at e
  | .mr _ _, _ :: _, _, _ => fun e => by simp [getP, setP, getTy] at e
  | .ptr _, _ :: _, _, _ => fun e => by simp [getP, setP, getTy] at e
  | .eb _ _, _ :: _, _, _ => fun e => by simp [getP, setP, getTy] at e
  | .st _, .l :: _, _, _ => fun e => by cases e
  | .st _, .r :: _, _, _ => fun e => by cases e
  | .pr _ _, .i :: _, _, _ => fun e => by cases e
theorem isTy_ok {c : Ctx} {id : Nat} {t : Ty} (h : isTy c id t = true) : ∃ i, look c.ty id = some i ∧ i.ty = t := by
  unfold isTy at h
  split at h
  · rename_i i hi; exact ⟨i, hi, by simpa using h⟩
  · cases h
theorem er_frz_get : ∀ {t : Ty} {p : List Dir} {s : Ty}, t = t.er → getTy t p = some s → s = s.er
  | t, [], s => fun h e => by
    have : s = t := by unfold getTy at e; simpa using e.symm
    rw [this]; exact h
  | .st t, .i :: p, s => fun h e => er_frz_get (t := t) (p := p) (by simpa [Ty.er] using h) e
  | .pr a b, .l :: p, s => fun h e => er_frz_get (t := a) (p := p) (by simp only [Ty.er, Ty.pr.injEq] at h; exact h.1) e
  | .pr a b, .r :: p, s => fun h e => er_frz_get (t := b) (p := p) (by simp only [Ty.er, Ty.pr.injEq] at h; exact h.2) e
  | .int _, _ :: _, _ => fun _ e => by simp [getP, setP, getTy] at e
  | .bool, _ :: _, _ => fun _ e => by simp [getP, setP, getTy] at e
  | .str, _ :: _, _ => fun _ e => by simp [getP, setP, getTy] at e
  | .unit, _ :: _, _ => fun _ e => by simp [getP, setP, getTy] at e
  | .dead _ _, _ :: _, _ => fun _ e => by simp [getP, setP, getTy] at e
  | .sl _, _ :: _, _ => fun _ e => by simp [getP, setP, getTy] at e
  | .rw _ _, _ :: _, _ => fun _ e => by simp [getP, setP, getTy] at e
  | .mr _ _, _ :: _, _ => fun _ e => by simp [getP, setP, getTy] at e
  | .ptr _, _ :: _, _ => fun _ e => by simp [getP, setP, getTy] at e
  | .eb _ _, _ :: _, _ => fun _ e => by simp [getP, setP, getTy] at e
  | .st _, .l :: _, _ => fun _ e => by cases e
  | .st _, .r :: _, _ => fun _ e => by cases e
  | .pr _ _, .i :: _, _ => fun _ e => by cases e

def Inv (G : World → Prop) (φ : Phi) (w : World) : Prop := G w ∧ Agree φ w

section
variable (P : Program) (N : Nat) (C : Cx) (G : World → Prop) (c : Ctx)
/-- In every state, the operation yields such a value, and leaves the rest. -/
def VOk (S : St) (o : Op) (d : D) : Prop := ∀ W e eh oh, SRel S W e eh oh → ∃ v, DR W d v [] ∧ ∀ dst ty pos af gd, Run P N C e (eh ++ oh) (Inv G W.φ) ⟨dst, o, ty, pos, af, gd⟩ v
end

section
variable {P : Program} {N : Nat} {C : Cx} {G : World → Prop} {c : Ctx} {S : St} {Rt : Type} {kk : D → Option Rt} {r : Rt}

theorem DR.int {W : Wit} {k : IntKind} {x : Int} : DR W (vInt k x) (.int k x) [] := ⟨[_], rfl, rfl, rfl, rfl⟩
theorem DR.bool {W : Wit} {b : Bool} : DR W (vBool b) (.bool b) [] := ⟨[_], rfl, rfl, rfl, rfl⟩
theorem DR.str {W : Wit} {l : List UInt8} : DR W (vStr l) (Eng.str l) [] := ⟨[_], rfl, rfl, rfl, rfl⟩

theorem intOp_ok {op : BinOp} {k : IntKind} {a b : Int} (h : intOp op k a b kk = some r) : ∃ d, kk d = some r ∧ ∀ x y tx tyy, S.get x = vInt k a → S.get y = vInt k b → VOk P N C G S (.binOp op tx x y tyy) d := by
  have bitsr : ∀ op, op = .and ∨ op = .or ∨ op = .xor ∨ op = .andNot → Op.intBits op k a b = pure (.int k (bits op k a b)) := by
    rintro op (rfl | rfl | rfl | rfl) <;> rfl
  unfold intOp at h
  split at h
  · exact ⟨_, h, fun x y tx tyy hx hy W e eh oh hs => ⟨_, DR.int, fun dst ty pos af gd => R.add (get_int hs.env hx) (get_int hs.env hy) rfl⟩⟩
  · exact ⟨_, h, fun x y tx tyy hx hy W e eh oh hs => ⟨_, DR.int, fun dst ty pos af gd => R.sub (get_int hs.env hx) (get_int hs.env hy) rfl⟩⟩
  · exact ⟨_, h, fun x y tx tyy hx hy W e eh oh hs => ⟨_, DR.int, fun dst ty pos af gd => R.mul (get_int hs.env hx) (get_int hs.env hy) rfl⟩⟩
  · obtain ⟨z, hz, h⟩ := Option.bind_eq_some_iff.1 h
    unfold nz at hz
    split at hz
    · cases hz
    · rename_i h0
      simp only [Option.some.injEq] at hz
      exact ⟨_, h, fun x y tx tyy hx hy W e eh oh hs => ⟨_, DR.int, fun dst ty pos af gd => R.quo (get_int hs.env hx) (get_int hs.env hy) h0 hz⟩⟩
  · obtain ⟨z, hz, h⟩ := Option.bind_eq_some_iff.1 h
    unfold nz at hz
    split at hz
    · cases hz
    · rename_i h0
      simp only [Option.some.injEq] at hz
      exact ⟨_, h, fun x y tx tyy hx hy W e eh oh hs => ⟨_, DR.int, fun dst ty pos af gd => R.rem (get_int hs.env hx) (get_int hs.env hy) h0 hz⟩⟩
  · exact ⟨_, h, fun x y tx tyy hx hy W e eh oh hs => ⟨_, DR.bool, fun dst ty pos af gd => R.lss (get_int hs.env hx) (get_int hs.env hy)⟩⟩
  · exact ⟨_, h, fun x y tx tyy hx hy W e eh oh hs => ⟨_, DR.bool, fun dst ty pos af gd => R.leq (get_int hs.env hx) (get_int hs.env hy)⟩⟩
  · exact ⟨_, h, fun x y tx tyy hx hy W e eh oh hs => ⟨_, DR.bool, fun dst ty pos af gd => R.gtr (get_int hs.env hx) (get_int hs.env hy)⟩⟩
  · exact ⟨_, h, fun x y tx tyy hx hy W e eh oh hs => ⟨_, DR.bool, fun dst ty pos af gd => R.geq (get_int hs.env hx) (get_int hs.env hy)⟩⟩
  · exact ⟨_, h, fun x y tx tyy hx hy W e eh oh hs => ⟨_, DR.bool, fun dst ty pos af gd => R.eqi (get_int hs.env hx) (get_int hs.env hy)⟩⟩
  · exact ⟨_, h, fun x y tx tyy hx hy W e eh oh hs => ⟨_, DR.bool, fun dst ty pos af gd => R.nei (get_int hs.env hx) (get_int hs.env hy)⟩⟩
  · exact ⟨_, h, fun x y tx tyy hx hy W e eh oh hs => ⟨_, DR.int, fun dst ty pos af gd => R.bits (.inl rfl) (get_int hs.env hx) (get_int hs.env hy) (bitsr _ (.inl rfl))⟩⟩
  · exact ⟨_, h, fun x y tx tyy hx hy W e eh oh hs => ⟨_, DR.int, fun dst ty pos af gd => R.bits (.inr (.inl rfl)) (get_int hs.env hx) (get_int hs.env hy) (bitsr _ (.inr (.inl rfl)))⟩⟩
  · exact ⟨_, h, fun x y tx tyy hx hy W e eh oh hs => ⟨_, DR.int, fun dst ty pos af gd => R.bits (.inr (.inr (.inl rfl))) (get_int hs.env hx) (get_int hs.env hy) (bitsr _ (.inr (.inr (.inl rfl))))⟩⟩
  · exact ⟨_, h, fun x y tx tyy hx hy W e eh oh hs => ⟨_, DR.int, fun dst ty pos af gd => R.bits (.inr (.inr (.inr rfl))) (get_int hs.env hx) (get_int hs.env hy) (bitsr _ (.inr (.inr (.inr rfl))))⟩⟩
  · cases h

theorem binE_ok {tb : Bool} {op : BinOp} {x y : Operand} {tx tyy : Nat} (hB : tb = true → tBo P tx = true) (h : binE tb op (S.get x) (S.get y) kk = some r) : ∃ d, kk d = some r ∧ VOk P N C G S (.binOp op tx x y tyy) d := by
  generalize hx : S.get x = dx at h
  generalize hy : S.get y = dy at h
  unfold binE at h
  split at h
  · obtain ⟨z, hz, h⟩ := Option.bind_eq_some_iff.1 h
    unfold nn at hz
    split at hz
    · cases hz
    · rename_i h0
      simp only [Option.some.injEq] at hz
      exact ⟨_, h, fun W e eh oh hs => ⟨_, DR.int, fun dst ty pos af gd => R.shl (get_int hs.env hx) (get_int hs.env hy) (by omega) hz⟩⟩
  · obtain ⟨z, hz, h⟩ := Option.bind_eq_some_iff.1 h
    unfold nn at hz
    split at hz
    · cases hz
    · rename_i h0
      simp only [Option.some.injEq] at hz
      exact ⟨_, h, fun W e eh oh hs => ⟨_, DR.int, fun dst ty pos af gd => R.shr (get_int hs.env hx) (get_int hs.env hy) (by omega) hz⟩⟩
  · split at h
    · rename_i hk
      subst hk
      obtain ⟨d, h1, h2⟩ := intOp_ok (P := P) (N := N) (C := C) (G := G) (S := S) h
      exact ⟨d, h1, h2 x y tx tyy hx hy⟩
    · cases h
  · exact ⟨_, h, fun W e eh oh hs => ⟨_, DR.bool, fun dst ty pos af gd => R.eqs (get_str hs.env hx) (get_str hs.env hy)⟩⟩
  · exact ⟨_, h, fun W e eh oh hs => ⟨_, DR.bool, fun dst ty pos af gd => R.nes (get_str hs.env hx) (get_str hs.env hy)⟩⟩
  · obtain ⟨z, hz, h⟩ := Option.bind_eq_some_iff.1 h
    unfold cat at hz
    split at hz
    · rename_i hl
      simp only [Option.some.injEq] at hz
      subst hz
      exact ⟨_, h, fun W e eh oh hs => ⟨_, DR.str, fun dst ty pos af gd => R.cat (get_str hs.env hx) (get_str hs.env hy) hl⟩⟩
    · cases hz
  · cases hb : tb with
    | false => rw [hb] at h; cases h
    | true => rw [hb] at h; exact ⟨_, h, fun W e eh oh hs => ⟨_, DR.bool, fun dst ty pos af gd => R.eqb (hB hb) (get_bool hs.env hx) (get_bool hs.env hy)⟩⟩
  · cases hb : tb with
    | false => rw [hb] at h; cases h
    | true => rw [hb] at h; exact ⟨_, h, fun W e eh oh hs => ⟨_, DR.bool, fun dst ty pos af gd => R.neb (hB hb) (get_bool hs.env hx) (get_bool hs.env hy)⟩⟩
  · cases h

theorem unE_ok {op : UnOp} {x : Operand} {tx : Nat} (h : unE op (S.get x) kk = some r) : ∃ d, kk d = some r ∧ VOk P N C G S (.unOp op tx x) d := by
  generalize hx : S.get x = dx at h
  unfold unE at h
  split at h
  · exact ⟨_, h, fun W e eh oh hs => ⟨_, DR.bool, fun dst ty pos af gd => R.notb (get_bool hs.env hx)⟩⟩
  · exact ⟨_, h, fun W e eh oh hs => ⟨_, DR.int, fun dst ty pos af gd => R.neg (get_int hs.env hx) rfl⟩⟩
  · cases h

theorem run_pick {e : Env} {hs : List Chunk} {I : World → Prop} {a x y : Operand} {b : Bool} {v w : Value} (ha : EV e a (.bool b)) (hx : b = true → EV e x v) (hy : b = false → EV e y w) {dst ty pos af gd} : Run P N C e hs I ⟨dst, .pick a x y, ty, pos, af, gd⟩ (if b then v else w) := by
  cases b with
  | true => exact R.pkt ha (hx rfl)
  | false => exact R.pkf ha (hy rfl)
theorem get_DR {W : Wit} {e : Env} {hs : List Chunk} (h : EnvR W S.env e hs) {x : Operand} {t : Ty} {y : t.den} (hd : S.get x = .v t y) : ∃ v, EV e x v ∧ DR W (.v t y) v [] := by
  obtain ⟨cs, h1, h2, h3, _⟩ := get_v h hd
  exact ⟨_, h1, cs, h3, rfl, h2⟩
theorem pickE_ok {a x y : Operand} (h : pickE (S.get a) (S.get x) (S.get y) kk = some r) : ∃ d, kk d = some r ∧ VOk P N C G S (.pick a x y) d := by
  generalize ha : S.get a = da at h
  generalize hx : S.get x = dx at h
  generalize hy : S.get y = dy at h
  unfold pickE at h
  split at h
  · rename_i b x' y'
    refine ⟨_, h, fun W e eh oh hs => ⟨_, DR.bool, fun dst ty pos af gd => ?_⟩⟩
    have := run_pick (P := P) (N := N) (C := C) (hs := eh ++ oh) (I := Inv G W.φ) (get_bool hs.env ha) (fun _ => get_bool hs.env hx) (fun _ => get_bool hs.env hy) (dst := dst) (ty := ty) (pos := pos) (af := af) (gd := gd)
    cases b <;> exact this
  · rename_i b t x'
    cases b with
    | false => cases h
    | true =>
      refine ⟨_, h, fun W e eh oh hs => ?_⟩
      obtain ⟨v, h1, h2⟩ := get_DR hs.env hx
      exact ⟨v, h2, fun dst ty pos af gd => R.pkt (get_bool hs.env ha) h1⟩
  · rename_i b t x'
    cases b with
    | true => cases h
    | false =>
      refine ⟨_, h, fun W e eh oh hs => ?_⟩
      obtain ⟨v, h1, h2⟩ := get_DR hs.env hy
      exact ⟨v, h2, fun dst ty pos af gd => R.pkf (get_bool hs.env ha) h1⟩
  · cases h

theorem ObR.look {W : Wit} {l : List (Nat × Ob)} {hs : List Chunk} (h : ObR W l hs) {j : Nat} {ob : Ob} (hj : Lf.look l j = some ob) : ∃ h r, ObOk W j ob h ∧ hs.Perm (h ++ r) := by
  induction h with
  | nil => cases hj
  | @cons j' ob' h hs l h1 h2 ih =>
    rw [look_cons] at hj
    split at hj
    · rename_i he
      subst he
      simp only [Option.some.injEq] at hj
      subst hj
      exact ⟨h, hs, h1, List.Perm.refl _⟩
    · obtain ⟨h3, r, h4, h5⟩ := ih hj
      exact ⟨h3, h ++ r, h4, (h5.append_left h).trans (by rw [← List.append_assoc, ← List.append_assoc]; exact List.perm_append_comm.append_right r)⟩
theorem at_ok {j : Nat} {p : List Dir} {o : Nat} {y : Dn} (h : S.at j p o = some y) : ∃ ob, look S.objs j = some ob ∧ offP ob.t p = o ∧ getP ob.t p ob.x = some y := by
  unfold St.at at h
  split at h
  · rename_i ob hob
    cases hb : Nat.beq (offP ob.t p) o with
    | false => rw [hb] at h; cases h
    | true => rw [hb] at h; exact ⟨ob, hob, Nat.eq_of_beq_eq_true hb, h⟩
  · cases h
/-- what stands in an object's place -/
theorem at_cells {W : Wit} {oh : List Chunk} (h : ObR W S.objs oh) {j : Nat} {p : List Dir} {o : Nat} {y : Dn} (ha : S.at j p o = some y) :
    ∃ ob pre mid post h1 h2 h3 r, look S.objs j = some ob ∧ W.hd j = pre ++ mid ++ post ∧ pre.length = o ∧ Rp W.φ y.1 y.2 mid h2 ∧
      oh.Perm ((match ob.tid with | some tid => [blk (W.adr j) tid (W.hd j)] | none => []) ++ (h1 ++ h2 ++ h3) ++ r) := by
  obtain ⟨ob, h1, h2, h3⟩ := at_ok ha
  obtain ⟨h4, r, ⟨h0, q1, q2⟩, h6⟩ := h.look h1
  obtain ⟨pre, mid, post, k1, k2, k3, e1, e2, e3, e4⟩ := getP_ok h3 q1
  refine ⟨ob, pre, mid, post, k1, k2, k3, r, h1, e1, by rw [e2, h2], e4, h6.trans ?_⟩
  rw [q2, e3]
  cases ob.tid <;> simp

theorem atC_ok {j : Nat} {p : List Dir} {o : Nat} {y : Dn} (h : S.atC j p o = some y) : S.at j p o = some y ∧ ∃ ob tid, look S.objs j = some ob ∧ ob.tid = some tid := by
  unfold St.atC at h
  split at h
  · rename_i ob hob
    split at h
    · rename_i tid ht
      exact ⟨by unfold St.at; rw [hob]; exact h, ob, tid, hob, ht⟩
    · cases h
  · cases h
theorem atC_cells {W : Wit} {oh : List Chunk} (h : ObR W S.objs oh) {j : Nat} {p : List Dir} {o : Nat} {y : Dn} (ha : S.atC j p o = some y) :
    ∃ tid pre mid post h2, W.hd j = pre ++ mid ++ post ∧ pre.length = o ∧ Rp W.φ y.1 y.2 mid h2 ∧ Has oh (blk (W.adr j) tid (W.hd j)) ∧ ∀ c ∈ h2, c ∈ oh := by
  obtain ⟨h1, ob, tid, h2, h3⟩ := atC_ok ha
  obtain ⟨ob', pre, mid, post, k1, k2, k3, r, q1, q2, q3, q4, q5⟩ := at_cells h h1
  have : ob' = ob := Option.some.inj (q1.symm.trans h2)
  subst this
  rw [h3] at q5
  exact ⟨tid, pre, mid, post, k2, q2, q3, q4, q5.mem_iff.2 (by simp), fun c hc => q5.mem_iff.2 (by simp [hc])⟩
theorem LGet_of (pre mid post : List Value) : LGet (pre ++ mid ++ post) pre.length mid.length mid := by
  induction pre with
  | cons x r ih => exact .skip ih
  | nil =>
    simp only [List.nil_append, List.length_nil]
    induction mid with
    | nil => exact .zero
    | cons y r ih => exact .here ih
theorem sv_cases {φ : Phi} {t : Ty} {x : t.den} {cs : List Value} {h : List Chunk} (ht : t.top = true) (r : Rp φ t x cs h) : (∃ t', t = .st t' ∧ sv t cs = .agg cs.toArray) ∨ ((∀ t', t ≠ .st t') ∧ ∃ v, cs = [v] ∧ sv t cs = v) := by
  have hl := r.len
  have one : ∀ (q : ∀ v, sv t [v] = v), t.size = 1 → (∀ t', t ≠ .st t') → (∃ t', t = .st t' ∧ sv t cs = .agg cs.toArray) ∨ ((∀ t', t ≠ .st t') ∧ ∃ v, cs = [v] ∧ sv t cs = v) := fun q h1 h2 => by
    rw [h1] at hl
    match cs, hl with
    | [v], _ => exact .inr ⟨h2, v, rfl, q v⟩
  cases t with
  | st t => exact .inl ⟨t, rfl, rfl⟩
  | unit => cases ht
  | dead _ _ => cases ht
  | mr _ _ => cases ht
  | pr _ _ => cases ht
  | _ => exact one (fun _ => rfl) rfl (fun _ e => by cases e)

theorem er_st {t t' : Ty} (h : t.er = .st t') : ∃ t0, t = .st t0 ∧ t0.er = t' := by
  cases t <;> simp_all [Ty.er]
variable (hT : ∀ id i, look c.ty id = some i → TyOk P id i)
include hT
theorem loadV_ok {tid : Nat} {a : Operand} (h : loadV c S tid kk (S.get a) = some r) : ∃ d, kk d = some r ∧ VOk P N C G S (.load tid a) d := by
  generalize ha : S.get a = da at h
  unfold loadV at h
  split at h
  · rename_i j p off
    split at h
    · rename_i el t l i hat hi
      split at h
      · rename_i he
        refine ⟨_, h, fun W e eh oh hs => ?_⟩
        obtain ⟨tb, pre, mid, post, h2, q1, q2, q3, q4, _⟩ := atC_cells hs.obs hat
        obtain ⟨A, cc, css, m1, _⟩ := q3
        subst m1
        have hc : (W.hd j)[off]? = some (.slice A (List.length l) cc) := by rw [q1, ← q2]; simp
        exact ⟨_, ⟨hc, rfl⟩, fun dst ty pos af gd => R.ld ((hT _ _ hi).sc (by rw [← he]; intro t' e; cases e)) (get_ref hs.env ha) (List.mem_append_right _ q4) hc⟩
      · cases h
    · rename_i t y i hmr hat hi
      split at h
      · rename_i he
        cases htop : t.top with
        | false => rw [htop] at h; cases h
        | true =>
          rw [htop] at h
          simp only [cond_true] at h
          split at h
          · rename_i y' hy'
            refine ⟨_, h, fun W e eh oh hs => ?_⟩
            obtain ⟨tb, pre, mid, post, h2, q1, q2, q3, q4, _⟩ := atC_cells hs.obs hat
            obtain ⟨h', r1, _⟩ := coe_ok hy' q3
            have := Rp.er_nil (Ty.er_er t).symm r1
            subst this
            refine ⟨sv t mid, ⟨mid, coe_top hy' htop, coe_sv hy' mid, r1⟩, fun dst ty pos af gd => ?_⟩
            rcases sv_cases htop q3 with ⟨t', e1, e2⟩ | ⟨e1, v, e2, e3⟩
            · rw [e2]
              have hi2 : i.ty = .st t'.er := by rw [← he, e1]; rfl
              have := (hT _ _ hi).agt _ hi2
              have hlen : mid.length = t'.er.size := by rw [q3.len]; show t.size = _; rw [e1, Ty.er_size]; rfl
              exact R.lda (n := mid.length) (by rw [hlen]; exact this) (get_ref hs.env ha) (List.mem_append_right _ q4) (by rw [q1, ← q2]; exact LGet_of _ _ _)
            · rw [e3]
              subst e2
              exact R.ld ((hT _ _ hi).sc (fun t' e => by rw [← he] at e; obtain ⟨t0, e5, _⟩ := er_st e; exact e1 _ e5)) (get_ref hs.env ha) (List.mem_append_right _ q4) (by rw [q1, ← q2]; simp)
          · cases h
      · cases h
    · cases h
  · rename_i t x
    split at h
    · rename_i i hi
      split at h
      · rename_i he
        cases htop : t.top with
        | false => rw [htop] at h; cases h
        | true =>
          rw [htop] at h
          simp only [cond_true] at h
          refine ⟨_, h, fun W e eh oh hs => ?_⟩
          obtain ⟨v, h', h1, ad, cs, rfl, q1, q2, _⟩ := get_ok hs.env ha (by intro e; cases e)
          refine ⟨sv t cs, ⟨cs, htop, rfl, q1⟩, fun dst ty pos af gd => ?_⟩
          rcases sv_cases htop q1 with ⟨t', e1, e2⟩ | ⟨e1, v, e2, e3⟩
          · rw [e2]
            have := (hT _ _ hi).agt t' (by rw [← he, e1])
            have hlen : cs.length = t'.size := by rw [q1.len, e1]; rfl
            refine R.ldpa (Ad := some ad) (j := 0) (by rw [← hlen] at this; exact this) rfl h1 (fun _ _ => by simp) fun w hb i v hv => ?_
            exact ⟨ad, rfl, by rw [Nat.zero_add]; exact hb.get.2 _ _ (q2 i v hv)⟩
          · rw [e3]
            subst e2
            exact R.ldf ((hT _ _ hi).sc (by rw [← he]; exact e1)) h1 fun w hb => hb.get.2 _ _ (q2 0 _ rfl)
      · cases h
    · cases h
  · rename_i j p off n sz q qo
    split at h
    · rename_i el t l i hat hi
      cases hb : (Nat.beq t.size sz && Nat.beq (offP t q) qo) with
      | false => rw [hb] at h; cases h
      | true =>
        rw [hb] at h
        simp only [cond_true] at h
        simp only [Bool.and_eq_true] at hb
        have hsz := Nat.eq_of_beq_eq_true hb.1
        have hqo := Nat.eq_of_beq_eq_true hb.2
        obtain ⟨x, hx, h⟩ := Option.bind_eq_some_iff.1 h
        split at h
        · rename_i s y hg
          split at h
          · rename_i he
            cases htop : s.top with
            | false => rw [htop] at h; cases h
            | true =>
              rw [htop] at h
              simp only [cond_true] at h
              refine ⟨_, h, fun W e eh oh hs => ?_⟩
              obtain ⟨v, h', h1, A, m, cc, k1, rfl, _⟩ := get_ok hs.env ha (by intro e; cases e)
              obtain ⟨ob, pre, mid, post, x1, x2, x3, rr, q1, q2, q3, q4, q5⟩ := at_cells hs.obs hat
              obtain ⟨A', cc', css, m1, m2, m3, _, m4⟩ := q4
              subst m1
              have hc : (W.hd j)[off]? = some (.slice A' (List.length l) cc') := by rw [q2, ← q3]; simp
              rw [hc] at k1
              simp only [Option.some.injEq, Value.slice.injEq] at k1
              obtain ⟨rfl, _, _⟩ := k1
              obtain ⟨ce, g1, g2⟩ := m3.get hx
              obtain ⟨pre2, mid2, post2, y1, y2, y3, f1, f2, f3, f4⟩ := getP_ok hg g2
              have hrow : Chunk.row false (.slice (some A) (List.length l) cc') el t.size (List.length l) css.flatten ∈ eh ++ oh := by
                refine List.mem_append_right _ (q5.mem_iff.2 ?_)
                simp [m4]
              have hall : ∀ cx ∈ css, cx.length = t.size := fun cx hcx => by
                obtain ⟨ix, hix⟩ := List.getElem?_of_mem hcx
                have hlt := (List.getElem?_eq_some_iff.1 hix).1
                rw [← m3.length] at hlt
                obtain ⟨b', hb1, hb2⟩ := m3.get (List.getElem?_eq_getElem hlt)
                rw [hix] at hb1
                injection hb1 with hb1
                subst hb1
                exact hb2.len
              have hcell : ∀ w, Hb C w (eh ++ oh) (Inv G W.φ) → ∀ j2 u, mid2[j2]? = some u → cellA w (some A) (n * sz + qo + j2) u := fun w hb2 j2 u hu => by
                have hr : w.ownsRow 0 el t.size (.slice (some A) (List.length l) cc') (List.length l) css.flatten := hb2.hp.hold _ hrow
                refine (Rd.of_row hr).cell ?_
                rw [← hsz, ← hqo, ← f2, show n * t.size + pre2.length + j2 = n * t.size + (pre2.length + j2) by omega]
                refine flat_get css hall n ce g1 (pre2.length + j2) u ?_
                rw [f1, List.append_assoc, List.getElem?_append_right (by omega), show pre2.length + j2 - pre2.length = j2 by omega, List.getElem?_append_left (by exact (List.getElem?_eq_some_iff.1 hu).1)]
                exact hu
              have hnil : y2 = [] := by
                have : y1 ++ y2 ++ y3 = [] := f3.symm
                simp at this
                exact this.2.1
              subst hnil
              refine ⟨sv s mid2, ⟨mid2, htop, rfl, f4⟩, fun dst ty pos af gd => ?_⟩
              have hpt : (Value.pointer (some (A.add (n * sz + qo)))) = ptA (some A) (n * sz + qo) := rfl
              rw [hpt] at h1
              rcases sv_cases htop f4 with ⟨t', e1, e2⟩ | ⟨e1, v, e2, e3⟩
              · rw [e2]
                have := (hT _ _ hi).agt t' (by rw [← he, e1])
                have hlen : mid2.length = t'.size := by rw [f4.len]; show s.size = _; rw [e1]; rfl
                exact R.ldpa (by rw [← hlen] at this; exact this) rfl h1 (fun _ _ => by simp) fun w hb2 j2 u hu => hcell w hb2 j2 u hu
              · rw [e3]
                subst e2
                exact R.ldp ((hT _ _ hi).sc (by rw [← he]; exact e1)) h1 fun w hb2 => by simpa using hcell w hb2 0 v rfl
          · cases h
        · cases h
    · cases h
  · cases h
end
end Go.Lf
