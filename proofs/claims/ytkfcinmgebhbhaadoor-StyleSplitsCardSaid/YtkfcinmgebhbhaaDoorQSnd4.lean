/-
  Operations that leave all but their slot as it is: all of them.
-/
import Derived.Test.YtkfcinmgebhbhaaDoorQSnd3
namespace Go.Lf
open Go Go.Eng

section
variable {P : Program} {N : Nat} {C : Cx} {G : World → Prop} {c : Ctx} {S : St} {Rt : Type} {kk : D → Option Rt} {r : Rt}

theorem getP_st {t t' : Ty} {f : Nat} {x : t.den} {s : Dn} (h : getP t (.i :: fpath t' f) x = some s) : ∃ u, t = .st u := by
  cases t <;> first | cases h | exact ⟨_, rfl⟩

variable (hc : CtxOk P G c)
include hc

theorem fieldAddr_ok {s : Nat} {x : Operand} {f : Nat} (h : valE c (.fieldAddr s x f) S kk = some r) : ∃ d, kk d = some r ∧ VOk P N C G S (.fieldAddr s x f) d := by
  have hT := hc.ty
  simp only [valE] at h
  split at h <;> first | cases h | skip
  rename_i t el hl
  have ho := (hT _ _ hl)
  cases hn : Nat.blt f (nf t) with
  | false => rw [hn] at h; cases h
  | true =>
    rw [hn] at h
    simp only [cond_true] at h
    have hlt : f < nf t := by simpa [Nat.blt_eq] using hn
    have hfo : tFo P s f (offP (.st t) (.i :: fpath t f)) = true := (ho.ag t rfl rfl).1 f hlt
    generalize hx : S.get x = dx at h
    split at h
    · refine ⟨_, h, fun W e eh oh hs => ⟨_, ⟨rfl, rfl⟩, fun dst ty pos af gd => ?_⟩⟩
      exact R.fao hfo (get_ref hs.env hx) rfl
    · rename_i t' y
      split at h
      · rename_i he
        split at h
        · rename_i s' z hg
          refine ⟨_, h, fun W e eh oh hs => ?_⟩
          obtain ⟨v, h', h1, ad, cs, rfl, q1, q2, _⟩ := get_ok hs.env hx (by intro e; cases e)
          obtain ⟨cs', q3, q4⟩ := fld_ok hg q1 q2
          refine ⟨_, ⟨ad.add (offP t' (.i :: fpath t f)), cs', rfl, q3, q4, rfl⟩, fun dst ty pos af gd => ?_⟩
          rw [he]
          have := R.fap (P := P) (N := N) (C := C) (hs := eh ++ oh) (I := Inv G W.φ) (d := dst) (ty := ty) (pos := pos) (af := af) (gd := gd) hfo (Ad := some ad) (j := 0) h1 (fun _ _ => by simp)
          rw [Nat.zero_add] at this
          exact this
        · cases h
      · cases h
    · rename_i t' y
      split at h
      · rename_i he
        split at h
        · rename_i s' z hg
          refine ⟨_, h, fun W e eh oh hs => ?_⟩
          obtain ⟨cs0, h1, ⟨ad, cs, rfl, q1, q2, _⟩, _⟩ := get_v hs.env hx
          obtain ⟨cs', q3, q4⟩ := fld_ok hg q1 q2
          refine ⟨_, ⟨ad.add (offP t' (.i :: fpath t f)), cs', rfl, q3, q4, rfl⟩, fun dst ty pos af gd => ?_⟩
          rw [he]
          have := R.fap (P := P) (N := N) (C := C) (hs := eh ++ oh) (I := Inv G W.φ) (d := dst) (ty := ty) (pos := pos) (af := af) (gd := gd) hfo (Ad := some ad) (j := 0) h1 (fun _ _ => by simp)
          rw [Nat.zero_add] at this
          exact this
        · cases h
      · cases h
    · rename_i j p off n z q qo
      refine ⟨_, h, fun W e eh oh hs => ?_⟩
      obtain ⟨v, h', h1, A, m, cc, k1, rfl, _⟩ := get_ok hs.env hx (by intro e; cases e)
      refine ⟨_, ⟨A, m, cc, k1, rfl, rfl⟩, fun dst ty pos af gd => ?_⟩
      have := R.fap (P := P) (N := N) (C := C) (hs := eh ++ oh) (I := Inv G W.φ) (d := dst) (ty := ty) (pos := pos) (af := af) (gd := gd) hfo (Ad := some A) (j := n * z + qo) h1 (fun _ _ => by simp)
      rw [Nat.add_assoc] at this
      exact this
    · cases h

theorem indexAddr_ok {tx : Nat} {x i : Operand} (h : valE c (.indexAddr tx x i) S kk = some r) : ∃ d, kk d = some r ∧ VOk P N C G S (.indexAddr tx x i) d := by
  have hT := hc.ty
  simp only [valE] at h
  generalize hi : S.get i = di at h
  split at h <;> first | cases h | skip
  rename_i k iv
  generalize hx : S.get x = dx at h
  split at h
  · rename_i t l
    cases hb : isTy c tx (.sl t) with
    | false => rw [hb] at h; cases h
    | true =>
      rw [hb] at h
      simp only [cond_true] at h
      obtain ⟨ti, hti, ho⟩ := isTyOk hT hb
      obtain ⟨e0, he, h⟩ := Option.bind_eq_some_iff.1 h
      obtain ⟨h0, he⟩ := idx_ok he
      refine ⟨_, h, fun W e eh oh hs => ?_⟩
      obtain ⟨cs, g1, ⟨A, cc, css, rfl, g3, g4, g5, _⟩, _⟩ := get_v hs.env hx
      obtain ⟨ad, ce, rfl, g6, g7⟩ := RdPhi.get g4 g5 he
      refine ⟨_, ⟨_, ce, rfl, g6, g7, rfl⟩, fun dst ty pos af gd => ?_⟩
      exact R.ixa (ho.sl t hti).1 g1 (get_int hs.env hi) (j := iv.toNat) (by omega) (by exact (List.getElem?_eq_some_iff.1 he).1) (fun _ _ => by simp)
  · rename_i j p off
    split at h
    · rename_i el t l hat
      cases hb : isTy c tx (.sl t) with
      | false => rw [hb] at h; cases h
      | true =>
        rw [hb] at h
        simp only [cond_true] at h
        obtain ⟨ti, hti, ho⟩ := isTyOk hT hb
        obtain ⟨n, hn, h⟩ := Option.bind_eq_some_iff.1 h
        obtain ⟨q1, q2⟩ := chk_ok hn
        refine ⟨_, h, fun W e eh oh hs => ?_⟩
        obtain ⟨v, g1, g2⟩ := get_aref hs.env hx
        obtain ⟨ob, pre, mid, post, x1, x2, x3, rr, w1, w2, w3, w4, w5⟩ := at_cells hs.obs hat
        obtain ⟨A, cc, css, m1, m2, m3, m5, m4⟩ := w4
        subst m1
        have hv : v = .slice A (List.length l) cc := by
          rw [w2, ← w3] at g2
          simpa using g2.symm
        subst hv
        cases A with
        | none => exact absurd (m5 (by show 0 < List.length l; omega)) (by simp)
        | some A =>
          refine ⟨_, ⟨A, _, _, g2, rfl, rfl⟩, fun dst ty pos af gd => ?_⟩
          exact R.ixa (ho.sl t hti).1 g1 (get_int hs.env hi) (j := n) q1 q2 (fun _ _ => by simp)
    · cases h
  · cases h

omit hc in
theorem arL_len {a : Ty} : ∀ {n : Nat} {x : (arT a n).den}, (arL a n x).length = n
  | 0, _ => rfl
  | n + 1, x => by show (x.1 :: arL a n x.2).length = _; rw [List.length_cons, arL_len]
omit hc in
theorem arL_cells {φ : Phi} {a : Ty} : ∀ {n : Nat} {x : (arT a n).den} {cs : List Value} {k : Nat} {e : a.den}, Rp φ (arT a n) x cs [] → (arL a n x)[k]? = some e → ∃ pre ce post, cs = pre ++ ce ++ post ∧ pre.length = k * a.size ∧ Rp φ a e ce []
  | 0, x, cs, k, e, _, h => by simp [arL] at h
  | n + 1, x, cs, k, e, r, h => by
    obtain ⟨c1, c2, h1, h2, e1, e2, r1, r2⟩ := r
    have hn : h1 = [] ∧ h2 = [] := by simpa using e2.symm
    obtain ⟨rfl, rfl⟩ := hn
    cases k with
    | zero =>
      have h : (x.1 :: arL a n x.2)[0]? = some e := h
      simp only [List.getElem?_cons_zero, Option.some.injEq] at h
      subst h
      exact ⟨[], c1, c2, by simp [e1], by simp, r1⟩
    | succ k =>
      have h : (x.1 :: arL a n x.2)[k + 1]? = some e := h
      rw [List.getElem?_cons_succ] at h
      obtain ⟨pre, ce, post, q1, q2, q3⟩ := arL_cells r2 h
      exact ⟨c1 ++ pre, ce, post, by rw [e1, q1]; simp, by rw [List.length_append, q2, r1.len, Nat.succ_mul, Nat.add_comm], q3⟩
omit hc in
theorem R.ixr {e : Env} {hs : List Chunk} {I : World → Prop} {d : Option Tmp} {ty : TypeId} {pos : String} {af : Array Edge} {gd : Option (Nat × Bool)} {φ : Phi} {a : Ty} {x : a.den} {tx el n k : Nat} {v i : Operand} {kd : IntKind} {iv : Int} {t : Ty} {cs pre ce post : List Value} (hu : P.underlying tx = some (.array n el)) (hsz : tSz P el a.size = true) (hsc : (∀ b, a ≠ .st b) → tSc P el = true) (hag : ∀ b, a = .st b → tAg P el b.size = true) (htop : a.top = true) (hr : Rp φ a x ce [])
    (hv : EV e v (sv (.st t) cs)) (hi : EV e i (.int kd iv)) (hk : iv = (k : Int)) (hlt : k < n) (hcs : cs = pre ++ ce ++ post) (hp : pre.length = k * a.size) : Run P N C e hs I ⟨d, .index tx v i, ty, pos, af, gd⟩ (sv a ce) := fun A w hf _ => by
  subst hk
  have h1 : A.eval v = .agg cs.toArray := hf.ev hv
  have h2 := hf.ev hi
  have h3 := run_sizeOf' (P := P) hsz w
  have h0 : (0 : Int) ≤ (k : Int) ∧ (k : Int) < (n : Int) := by omega
  have hpart : (part el cs.toArray (k * a.size)).run P w = .ok (sv a ce) w := by
    rcases sv_cases htop hr with ⟨b, e1, e2⟩ | ⟨e1, u, e2, e3⟩
    · subst e1
      have h4 := (tAg_spec (hag b rfl)).1 w
      rw [e2]
      unfold part
      simp only [Sem.run_bind, h4, Result.andThen_ok, if_true, h3, Sem.run_pure]
      congr 2
      apply Array.ext'
      have hcl : ce.length = (Ty.st b).size := hr.len
      rw [Array.toList_extract]
      simp only [List.extract_eq_take_drop]
      rw [hcs, ← hp, List.append_assoc, List.drop_append_of_le_length (Nat.le_refl _), List.drop_length, List.nil_append, show pre.length + (Ty.st b).size - pre.length = ce.length by omega, List.take_append_of_le_length (Nat.le_refl _), List.take_length]
    · have h4 := tSc_spec (hsc e1) w
      rw [e3]
      unfold part
      simp only [Sem.run_bind, h4, Result.andThen_ok]
      have h5 : cs.toArray[k * a.size]? = some u := by
        rw [hcs, e2, ← hp]
        simp
      simp [h5]
  have h6 : (Instr.index tx (.agg cs.toArray) (.int kd (k : Int))).run P w = .ok (sv a ce) w := by
    unfold Instr.index
    simp only [asIntOf, Sem.run_bind, Sem.run_pure, Result.andThen_ok, run_underlying hu]
    rw [if_pos h0]
    simp only [Sem.run_bind, h3, Result.andThen_ok, Int.toNat_natCast]
    exact hpart
  simp only [execOp, h1, h2, Sem.run_bind, h6, Result.andThen_ok]
  rfl

theorem index_ok {tx : Nat} {x i : Operand} (h : valE c (.index tx x i) S kk = some r) : ∃ d, kk d = some r ∧ VOk P N C G S (.index tx x i) d := by
  have hT := hc.ty
  simp only [valE] at h
  generalize hx : S.get x = dx at h
  generalize hi : S.get i = di at h
  split at h
  case h_3 => cases h
  case h_2 t y k iv =>
    split at h
    case h_2 => cases h
    case h_1 t' el n hl =>
    split at h
    case h_2 => cases h
    case h_1 a ha =>
    cases htop : a.top with
    | false => rw [htop] at h; cases h
    | true =>
    rw [htop] at h
    simp only [cond_true] at h
    split at h
    case isFalse => cases h
    case isTrue hta =>
    split at h
    case isFalse => cases h
    case isTrue htt =>
    subst hta
    obtain ⟨e0, he, h⟩ := Option.bind_eq_some_iff.1 h
    obtain ⟨h0, he⟩ := idx_ok he
    have ho := hT _ _ hl
    obtain ⟨a2, hta2, hu, hsz, hsc, hag⟩ := ho.ar t' rfl (Nat.succ_pos n)
    have ha2 : a2 = a := by
      have h5 : arT a2 (n + 1) = arT a (n + 1) := hta2.symm.trans htt
      simp only [arT, Ty.pr.injEq] at h5
      exact h5.1
    subst ha2
    refine ⟨_, h, fun W e eh oh hs => ?_⟩
    obtain ⟨cs, g1, g2, _, _⟩ := get_v hs.env hx
    obtain ⟨pre, ce, post, k1, k2, k3⟩ := arL_cells g2 he
    refine ⟨_, ⟨ce, htop, rfl, k3⟩, fun dst ty pos af gd => ?_⟩
    have hlt : iv.toNat < n + 1 := by
      have := (List.getElem?_eq_some_iff.1 he).1
      rwa [arL_len] at this
    exact R.ixr hu hsz hsc hag htop k3 g1 (get_int hs.env hi) (by omega) hlt k1 k2
  case h_1 l k iv =>
  cases hb : isTy c tx .str with
  | false => rw [hb] at h; cases h
  | true =>
    rw [hb] at h
    simp only [cond_true] at h
    obtain ⟨ti, hti, ho⟩ := isTyOk hT hb
    obtain ⟨b, he, h⟩ := Option.bind_eq_some_iff.1 h
    obtain ⟨h0, he⟩ := idx_ok he
    exact ⟨_, h, fun W e eh oh hs => ⟨_, DR.int, fun dst ty pos af gd => R.ixs (ho.str hti) (get_str hs.env hx) (get_int hs.env hi) (j := iv.toNat) (by omega) he⟩⟩

omit hc in
theorem TupR.get {φ : Phi} {L : List Dn} {vs : List Value} {h : List Chunk} (ht : TupR φ L vs h) {i : Nat} {t : Ty} {x : t.den} (hi : L[i]? = some ⟨t, x⟩) : ∃ cs h', TGet vs i (sv t cs) ∧ t.top = true ∧ Rp φ t x cs h' := by
  induction ht generalizing i with
  | nil => simp at hi
  | @cons t' x' cs h hs l vs h1 h2 h3 ih =>
    cases i with
    | zero =>
      simp only [List.getElem?_cons_zero, Option.some.injEq] at hi
      injection hi with e1 e2
      subst e1
      have e2 := eq_of_heq e2
      subst e2
      exact ⟨cs, h, .here, h1, h2⟩
    | succ i =>
      obtain ⟨cs', h', q1, q2, q3⟩ := ih (by simpa using hi)
      exact ⟨cs', h', .skip q1, q2, q3⟩
omit hc in
theorem extract_ok {x : Operand} {i : Nat} (h : valE c (.extract x i) S kk = some r) : ∃ d, kk d = some r ∧ VOk P N C G S (.extract x i) d := by
  simp only [valE] at h
  generalize hx : S.get x = dx at h
  split at h <;> first | cases h | skip
  rename_i L
  split at h <;> first | cases h | skip
  rename_i t y hl
  cases htop : t.top with
  | false => rw [htop] at h; cases h
  | true =>
    rw [htop] at h
    simp only [cond_true] at h
    split at h
    · rename_i y' hy
      refine ⟨_, h, fun W e eh oh hs => ?_⟩
      obtain ⟨v, h', h1, vs, rfl, q⟩ := get_ok hs.env hx (by intro e; cases e)
      obtain ⟨cs, h2, g1, g2, g3⟩ := q.get hl
      obtain ⟨h3, r1, _⟩ := coe_ok hy g3
      have := Rp.er_nil (Ty.er_er t).symm r1
      subst this
      exact ⟨_, ⟨cs, coe_top hy g2, coe_sv hy cs, r1⟩, fun dst ty pos af gd => R.ex h1 g1⟩
    · cases h

theorem makeI_ok {t : Nat} {x : Operand} (h : valE c (.makeInterface t x) S kk = some r) : ∃ d, kk d = some r ∧ VOk P N C G S (.makeInterface t x) d := by
  simp only [valE] at h
  generalize hx : S.get x = dx at h
  split at h <;> first | cases h | skip
  rename_i t' el sz t'' y hl
  split at h
  · rename_i he
    refine ⟨_, h, fun W e eh oh hs => ?_⟩
    obtain ⟨cs0, h1, ⟨ad, cs, rfl, q1, q2, _⟩, _⟩ := get_v hs.env hx
    refine ⟨_, ⟨[_], rfl, rfl, rfl, ad, cs, rfl, q1, q2⟩, fun dst ty pos af gd => ?_⟩
    have h2 := (hc.ty _ _ hl).ptr t' rfl
    unfold tPt at h2
    split at h2
    · rename_i u hu
      exact R.mi hu (by intro m e; cases e) h1
    · cases h2
  · cases h

omit hc in
theorem bytesU_data (l : List Int) (s : ByteArray) : l.foldl (fun r n => r.push (UInt8.ofNat n.toNat)) s = ⟨s.data ++ (bytesU l).toArray⟩ := by
  induction l generalizing s with
  | nil => simp [bytesU]
  | cons x r ih =>
    rw [List.foldl_cons, ih]
    congr 1
    simp [ByteArray.push, bytesU]
omit hc in
theorem u8_css {φ : Phi} {l : List Int} {css : List (List Value)} (h : All2 (fun (x : Int) cs => Rp φ (.int .u8) x cs []) l css) : css = List.map (fun n : Int => [Value.int .u8 n]) l := by
  induction h with
  | nil => rfl
  | cons q _ ih => obtain ⟨rfl, _⟩ := q; rw [ih]; rfl
omit hc in
theorem u8_flat (l : List Int) : (List.map (fun n : Int => [Value.int .u8 n]) l).flatten = List.map (Value.int .u8) l := by
  induction l with
  | nil => rfl
  | cons x q ih => simp [ih]
theorem convert_ok {s t : Nat} {x : Operand} (h : valE c (.convert s t x) S kk = some r) : ∃ d, kk d = some r ∧ VOk P N C G S (.convert s t x) d := by
  simp only [valE] at h
  generalize hx : S.get x = dx at h
  split at h
  · rename_i hs1 k' _ _ k a hl ht
    refine ⟨_, h, fun W e eh oh hs => ⟨_, DR.int, fun dst ty pos af gd => ?_⟩⟩
    obtain ⟨ds, hds⟩ := (hc.ty _ _ hl).un
    exact R.cvi hds ((hc.ty _ _ ht).int _ rfl) (get_int hs.env hx) rfl
  · rename_i el sz _ _ l hl ht
    refine ⟨_, h, fun W e eh oh hs => ⟨_, DR.str, fun dst ty pos af gd a w hf hb => ?_⟩⟩
    obtain ⟨cs, g1, ⟨A, cc, css, rfl, g3, g4, g5, _⟩, _⟩ := get_v hs.env hx
    have hby := ((hc.ty _ _ hl).sl _ rfl).2.2.1 rfl
    unfold tByt at hby
    simp only [Bool.and_eq_true] at hby
    have h1 : P.underlying s = some (.slice el) := by
      have h := hby.1
      split at h
      · rename_i e2 he
        have : el = e2 := by simpa using h
        rw [this]; exact he
      · cases h
    have h2 : P.underlying el = some (.int .u8) := by
      have h := hby.2
      split at h
      · rename_i he; exact he
      · cases h
    have hcss : css = List.map (fun n : Int => [Value.int .u8 n]) l := u8_css g4
    have h3 : (convert s t (.slice A (List.length l) cc)).run P w = .ok (Eng.str (bytesU l)) w := by
      rw [run_convert_bytes_string w s t el A (List.length l) cc h1 h2 (tStr_spec ((hc.ty _ _ ht).str rfl))]
      cases A with
      | none =>
        have : l = [] := by
          cases hl0 : l with
          | nil => rfl
          | cons x q => rw [hl0] at g5; obtain ⟨ad, h4, _⟩ := g5 (by simp); cases h4
        subst this
        rfl
      | some ad =>
        have h5 := run_bytesToString (P := P) w ad (List.length l) cc l (by
          have := run_loadCellsFrom' (P := P) (a := ad) (w := w) (List.map (Value.int .u8) l) 0 #[] (fun j v hj => by
            have hlt : j < List.length l := by have := (List.getElem?_eq_some_iff.1 hj).1; simpa using this
            obtain ⟨ad', h6, h7⟩ := g5 (by omega)
            injection h6 with h6
            subst h6
            rw [Nat.zero_add]
            refine hb.get.2 _ _ (h7 j v ?_)
            rw [hcss]
            rw [u8_flat]
            exact hj)
          simpa [loadCells] using this)
        rw [h5, bytesU_data]
        simp
    simp [execOp, hf.ev g1, sv, h3]
  · cases h

omit hc in
theorem zero_ok {φ : Phi} : ∀ {t : Ty} {x : t.den}, zero t = some x → ∃ h, Rp φ t x (zcells t) h ∧ Sub [] h
  | .int _, x => fun e => by have : x = (0 : Int) := by simpa [zero] using e.symm
                             subst this; exact ⟨[], ⟨rfl, rfl⟩, Sub.refl _⟩
  | .bool, x => fun e => by have : x = false := by simpa [zero] using e.symm
                            subst this; exact ⟨[], ⟨rfl, rfl⟩, Sub.refl _⟩
  | .str, x => fun e => by have : x = ([] : List UInt8) := by simpa [zero] using e.symm
                           subst this; exact ⟨[], ⟨rfl, rfl⟩, Sub.refl _⟩
  | .unit, x => fun e => ⟨[], ⟨rfl, rfl⟩, Sub.refl _⟩
  | .dead _ _, x => fun e => by simp [zero] at e
  | .sl t, x => fun e => by have : x = ([] : List t.den) := by simpa [zero] using e.symm
                            subst this; exact ⟨[], ⟨none, 0, [], rfl, Nat.le_refl _, .nil, fun h => absurd h (by simp), rfl⟩, Sub.refl _⟩
  | .rw el t, x => fun e => by have : x = ([] : List t.den) := by simpa [zero] using e.symm
                               subst this; exact ⟨_, ⟨none, 0, [], rfl, Nat.le_refl _, .nil, fun h => absurd h (by simp), rfl⟩, Sub.nilrow true el t.size⟩
  | .mr el t, x => fun e => by have : x = ([] : List t.den) := by simpa [zero] using e.symm
                               subst this; exact ⟨_, ⟨none, 0, [], rfl, Nat.le_refl _, .nil, fun h => absurd h (by simp), rfl⟩, Sub.nilrow false el t.size⟩
  | .ptr _, x => fun e => by simp [zero] at e
  | .eb _ t, x => fun e => by have : x = (none : Option t.den) := by simpa [zero] using e.symm
                              subst this; exact ⟨[], ⟨rfl, rfl⟩, Sub.refl _⟩
  | .st t, x => fun e => zero_ok (t := t) (by simpa only [zero] using e)
  | .pr a b, x => fun e => by
    unfold zero at e
    split at e
    · rename_i y z hy hz
      simp only [Option.some.injEq] at e
      subst e
      obtain ⟨h1, r1, s1⟩ := zero_ok (φ := φ) hy
      obtain ⟨h2, r2, s2⟩ := zero_ok (φ := φ) hz
      exact ⟨h1 ++ h2, ⟨_, _, h1, h2, rfl, rfl, r1, r2⟩, Sub.app s1 s2⟩
    · cases e
omit hc in
theorem LPut_of (pre mid post vs : List Value) (h : vs.length = mid.length) : LPut (pre ++ mid ++ post) pre.length vs (pre ++ vs ++ post) := by
  induction pre with
  | cons x r ih => exact .skip ih
  | nil =>
    simp only [List.nil_append, List.length_nil]
    induction mid generalizing vs with
    | nil =>
      have : vs = [] := List.length_eq_zero_iff.1 (by simpa using h)
      subst this
      exact .zero
    | cons y q ih =>
      cases vs with
      | nil => cases h
      | cons v q' => exact .here (ih q' (by simpa using h))
theorem buildP_ok {id : Nat} {t : Ty} {i : TyI} (hi : look c.ty id = some i) (hty : i.ty = .st t) (hsz : i.sz = 0) {W : Wit} {e : Env} {hs : List Chunk} (he : EnvR W S.env e hs) :
    ∀ (parts : List (Nat × Operand)) (z y : t.den) (cs : List Value), buildP S t parts z = some y → Rp W.φ t z cs [] → ∃ cs', Rp W.φ t y cs' [] ∧ Parts P id e cs parts cs'
  | [], z, y, cs => fun h r => by
    have : z = y := by simpa [buildP] using h
    subst this
    exact ⟨cs, r, .nil⟩
  | (f, x) :: q, z, y, cs => fun h r => by
    have ho := hc.ty _ _ hi
    have hfr : t = t.er := by have := ho.frz; rw [hty] at this; simpa [Ty.er] using this
    unfold buildP at h
    cases hn : Nat.blt f (nf t) with
    | false => rw [hn] at h; cases h
    | true =>
      rw [hn] at h
      simp only [cond_true] at h
      have hlt : f < nf t := by simpa [Nat.blt_eq] using hn
      split at h <;> first | cases h | skip
      rename_i s x0 hg
      split at h <;> first | cases h | skip
      rename_i yv hy
      split at h <;> first | cases h | skip
      rename_i t' z' hst
      split at h
      · rename_i het
        have hgt := getTy_ok hg
        have hs1 : s = s.er := er_frz_get (t := .st t) (by simp [Ty.er, ← hfr]) hgt
        obtain ⟨vs, g1, g2⟩ := asTy_get he hy hs1
        obtain ⟨pre, mid, post, h1, h2, h3, s0, q0, q1, q2, q3, q4, q5, q6, q7, q8⟩ := setP_ok (t := .st t) hst r
        have hs0 : s0 = ⟨s, x0⟩ := Option.some.inj (q0.symm.trans hg)
        subst hs0
        have hnil : h1 = [] ∧ h2 = [] ∧ h3 = [] := by
          have : h1 ++ h2 ++ h3 = [] := q4.symm
          simpa [and_assoc] using this
        obtain ⟨rfl, rfl, rfl⟩ := hnil
        have q9 := q8 W.φ vs [] W.φ.le_refl g2
        subst het
        obtain ⟨cs', r1, r2⟩ := buildP_ok hi hty hsz he q z' y _ h q9
        obtain ⟨hf1, fs, _, _, hf2⟩ := ho.ag t hty hsz
        have htop : s.top = true := by
          generalize hd : S.get x = d at hy
          unfold asTy at hy
          split at hy
          · obtain ⟨_, _, _, ht, _⟩ := get_v he hd; exact coe_top hy ht
          · split at hy <;> first | rfl | (simp [Ty.er] at hs1; done) | cases hy
          · split at hy <;> first | rfl | cases hy
          · cases hy
        have hlv : vs.length = s.size := g2.len
        refine ⟨cs', r1, .cons (hf1 f hlt) (hf2 f s hlt hgt) hlv g1 (sv_one htop g2) ?_ r2⟩
        have hq3 : pre.length = offP t (fpath t f) := q3
        rw [← hq3, q2]
        exact LPut_of pre mid post vs (by rw [hlv, q5.len])
      · cases h
omit hc in
theorem arT_get {a : Ty} : ∀ {n f : Nat}, f < nf (arT a n) → f < n ∧ getTy (arT a n) (fpath (arT a n) f) = some a ∧ offP (arT a n) (fpath (arT a n) f) = f * a.size
  | 0, f, h => by simp [arT, nf] at h
  | n + 1, 0, h => ⟨Nat.succ_pos n, by show getTy (.pr a (arT a n)) [.l] = some a; cases a <;> rfl, by show offP a [] = 0 * a.size; rw [Nat.zero_mul]; cases a <;> rfl⟩
  | n + 1, f + 1, h => by
    obtain ⟨h1, h2, h3⟩ := arT_get (a := a) (n := n) (f := f) (by simpa [arT, nf] using h)
    refine ⟨by omega, h2, ?_⟩
    show a.size + offP (arT a n) (fpath (arT a n) f) = (f + 1) * a.size
    rw [h3, Nat.succ_mul, Nat.add_comm]
/-- an array's parts -/
theorem buildA_ok {id n : Nat} {t : Ty} {i : TyI} (hi : look c.ty id = some i) (hty : i.ty = .st t) (hsz : i.sz = n + 1) {W : Wit} {e : Env} {hs : List Chunk} (he : EnvR W S.env e hs) :
    ∀ (parts : List (Nat × Operand)) (z y : t.den) (cs : List Value), buildP S t parts z = some y → Rp W.φ t z cs [] → ∃ cs', Rp W.φ t y cs' [] ∧ PartsA P i.el e cs parts cs'
  | [], z, y, cs => fun h r => by
    have : z = y := by simpa [buildP] using h
    subst this
    exact ⟨cs, r, .nil⟩
  | (f, x) :: q, z, y, cs => fun h r => by
    have ho := hc.ty _ _ hi
    have hfr : t = t.er := by have := ho.frz; rw [hty] at this; simpa [Ty.er] using this
    unfold buildP at h
    cases hn : Nat.blt f (nf t) with
    | false => rw [hn] at h; cases h
    | true =>
      rw [hn] at h
      simp only [cond_true] at h
      have hlt : f < nf t := by simpa [Nat.blt_eq] using hn
      split at h <;> first | cases h | skip
      rename_i s x0 hg
      split at h <;> first | cases h | skip
      rename_i yv hy
      split at h <;> first | cases h | skip
      rename_i t' z' hst
      split at h
      · rename_i het
        have hgt := getTy_ok hg
        have hs1 : s = s.er := er_frz_get (t := .st t) (by simp [Ty.er, ← hfr]) hgt
        obtain ⟨vs, g1, g2⟩ := asTy_get he hy hs1
        obtain ⟨pre, mid, post, h1, h2, h3, s0, q0, q1, q2, q3, q4, q5, q6, q7, q8⟩ := setP_ok (t := .st t) hst r
        have hs0 : s0 = ⟨s, x0⟩ := Option.some.inj (q0.symm.trans hg)
        subst hs0
        have hnil : h1 = [] ∧ h2 = [] ∧ h3 = [] := by
          have : h1 ++ h2 ++ h3 = [] := q4.symm
          simpa [and_assoc] using this
        obtain ⟨rfl, rfl, rfl⟩ := hnil
        have q9 := q8 W.φ vs [] W.φ.le_refl g2
        subst het
        obtain ⟨cs', r1, r2⟩ := buildA_ok hi hty hsz he q z' y _ h q9
        obtain ⟨a, hta, _, hsza, _⟩ := ho.ar t hty (by omega)
        obtain ⟨k1, k2, k3⟩ := arT_get (a := a) (n := i.sz) (f := f) (by rw [← hta]; exact hlt)
        have hsa : s = a := by
          rw [← hta] at k2
          exact Option.some.inj ((show getTy t (fpath t f) = some s from hgt).symm.trans k2)
        have htop := asTy_top he hy hs1
        have hlv : vs.length = s.size := g2.len
        refine ⟨cs', r1, .cons (n := a.size) hsza (by rw [hlv, hsa]) g1 (sv_one htop g2) ?_ r2⟩
        have hq3 : pre.length = offP t (fpath t f) := q3
        rw [← hta] at k3
        rw [← k3, ← hq3, q2]
        exact LPut_of pre mid post vs (by rw [hlv, q5.len])
      · cases h
theorem build_ok {t : Nat} {parts : Array (Nat × Operand)} (h : valE c (.build t parts) S kk = some r) : ∃ d, kk d = some r ∧ VOk P N C G S (.build t parts) d := by
  simp only [valE] at h
  split at h <;> first | cases h | skip
  rename_i t' el sz hl
  have ho := hc.ty _ _ hl
  split at h <;> first | cases h | skip
  rename_i z hz
  split at h <;> first | cases h | skip
  rename_i y hy
  refine ⟨_, h, fun W e eh oh hs => ?_⟩
  obtain ⟨h0, r0, _⟩ := zero_ok (φ := W.φ) hz
  have hfr : t' = t'.er := by have := ho.frz; simpa [Ty.er] using this
  have := Rp.er_nil hfr r0
  subst this
  cases sz with
  | succ n =>
    obtain ⟨cs', r1, r2⟩ := buildA_ok hc hl rfl rfl hs.env _ _ _ _ hy r0
    obtain ⟨a, _, hu, hsz, _⟩ := ho.ar t' rfl (Nat.succ_pos n)
    refine ⟨.agg cs'.toArray, ⟨cs', rfl, rfl, r1⟩, fun dst ty pos af gd => ?_⟩
    have := R.blda (P := P) (N := N) (C := C) (hs := eh ++ oh) (I := Inv G W.φ) (d := dst) (ty := ty) (pos := pos) (af := af) (gd := gd) hu hsz (ho.zero (by show (zero t').isSome = true; rw [hz]; rfl)) r2
    simpa using this
  | zero =>
  obtain ⟨cs', r1, r2⟩ := buildP_ok hc hl rfl rfl hs.env _ _ _ _ hy r0
  obtain ⟨_, fs, hu, hst, _⟩ := ho.ag t' rfl rfl
  refine ⟨.agg cs'.toArray, ⟨cs', rfl, rfl, r1⟩, fun dst ty pos af gd => ?_⟩
  have := R.bld (P := P) (N := N) (C := C) (hs := eh ++ oh) (I := Inv G W.φ) (d := dst) (ty := ty) (pos := pos) (af := af) (gd := gd) hu hst (ho.zero (by show (zero t').isSome = true; rw [hz]; rfl)) r2
  simpa using this

omit hc in
theorem maxq (a b : Int) : (if a < b then b else a) = max a b := by simp only [Int.max_def]; split <;> split <;> omega
omit hc in
theorem minq (a b : Int) : (if b < a then b else a) = min a b := by simp only [Int.min_def]; split <;> split <;> omega
omit hc in
theorem maxmin_ok {args : Array Operand} {tys : Array TypeId} {b : Builtin} (hb : b = .max ∨ b = .min) (h : valE c (.call ⟨.builtin b, args, tys⟩) S kk = some r) : ∃ d, kk d = some r ∧ VOk P N C G S (.call ⟨.builtin b, args, tys⟩) d := by
  rcases hb with rfl | rfl
  · simp only [valE] at h
    split at h <;> first | cases h | skip
    rename_i x y ha
    have e1 : args = #[x, y] := by rw [← Array.toArray_toList (xs := args), ha]
    subst e1
    generalize hx : S.get x = dx at h
    generalize hy : S.get y = dy at h
    split at h <;> first | cases h | skip
    rename_i k1 a k2 b2
    split at h
    · rename_i hk
      subst hk
      exact ⟨_, h, fun W e eh oh hs => ⟨_, DR.int, fun dst ty pos af gd => R.maxi (get_int hs.env hx) (get_int hs.env hy) (maxq a b2)⟩⟩
    · cases h
  · simp only [valE] at h
    split at h <;> first | cases h | skip
    rename_i x y ha
    have e1 : args = #[x, y] := by rw [← Array.toArray_toList (xs := args), ha]
    subst e1
    generalize hx : S.get x = dx at h
    generalize hy : S.get y = dy at h
    split at h <;> first | cases h | skip
    rename_i k1 a k2 b2
    split at h
    · rename_i hk
      subst hk
      exact ⟨_, h, fun W e eh oh hs => ⟨_, DR.int, fun dst ty pos af gd => R.mini (get_int hs.env hx) (get_int hs.env hy) (minq a b2)⟩⟩
    · cases h

/-- all but a call of the program's functions -/
def quietOp : Op → Bool
  | .call cl => match cl.callee with | .value _ => false | _ => true
  | _ => true
theorem valV_ok {o : Op} (hq : quietOp o = true) (h : valE c o S kk = some r) : ∃ d, kk d = some r ∧ VOk P N C G S o d := by
  have lift : (∃ d, kk d = some r ∧ VOk P N C G S o d) → ∃ d, kk d = some r ∧ VOk P N C G S o d := id
  have mv : ∀ x, (o = .move x ∨ o = .assign x) → moveV (S.get x) kk = some r → ∃ d, kk d = some r ∧ VOk P N C G S o d := by
    intro x hx h
    generalize hd : S.get x = d at h
    have hne : d ≠ .und := fun e => by rw [e] at h; cases h
    have hk : kk d = some r := by
      unfold moveV at h
      split at h
      · cases h
      · exact h
    refine ⟨d, hk, fun W e eh oh hs => ?_⟩
    obtain ⟨v, h1, h2⟩ := get_nil hs.env hd hne
    rcases hx with rfl | rfl
    · exact ⟨v, h2, fun dst ty pos af gd => R.mv h1⟩
    · exact ⟨v, h2, fun dst ty pos af gd => R.as h1⟩
  cases o <;> first | (simp only [valE] at h; cases h; done) | skip
  case move x => exact lift (mv x (.inl rfl) (by simpa only [valE] using h))
  case assign x => exact lift (mv x (.inr rfl) (by simpa only [valE] using h))
  case pick a x y => exact lift (pickE_ok (by simpa only [valE] using h))
  case nilCheck x =>
    refine lift ?_
    simp only [valE] at h
    generalize hx : S.get x = dx at h
    split at h
    · exact ⟨_, h, fun W e eh oh hs => ⟨_, ⟨rfl, rfl⟩, fun dst ty pos af gd => R.nc (get_ref hs.env hx)⟩⟩
    · refine ⟨_, h, fun W e eh oh hs => ?_⟩
      obtain ⟨v, h', h1, ad, cs, rfl, q1, q2, _⟩ := get_ok hs.env hx (by intro e; cases e)
      exact ⟨_, ⟨ad, cs, rfl, q1, q2, rfl⟩, fun dst ty pos af gd => R.nc h1⟩
    · refine ⟨_, h, fun W e eh oh hs => ?_⟩
      obtain ⟨v, h', h1, A, m, cc, k1, rfl, _⟩ := get_ok hs.env hx (by intro e; cases e)
      exact ⟨_, ⟨A, m, cc, k1, rfl, rfl⟩, fun dst ty pos af gd => R.nc h1⟩
    · refine ⟨_, h, fun W e eh oh hs => ?_⟩
      obtain ⟨cs0, h1, ⟨ad, cs, rfl, q1, q2, _⟩, h3, _⟩ := get_v hs.env hx
      exact ⟨_, ⟨_, rfl, rfl, ad, cs, rfl, q1, q2, rfl⟩, fun dst ty pos af gd => R.nc h1⟩
    · cases h
  case binOp op tx x y tyy =>
    refine lift ?_
    simp only [valE] at h
    split at h
    · rename_i te t a hx
      split at h <;> first | cases h | skip
      rename_i te2 t2 el sz hl
      have ht := (hc.ty _ _ hl).eb te2 t2 rfl
      refine ⟨_, h, fun W e eh oh hs => ⟨_, DR.bool, fun dst ty pos af gd => ?_⟩⟩
      obtain ⟨cs, g1, g2, _⟩ := get_v hs.env hx
      obtain ⟨_, g2⟩ := g2
      cases a with
      | none => have g2 : cs = [.nilIface] := g2; subst g2; exact R.eqin0 ht g1
      | some y => obtain ⟨ad, cs', rfl, _⟩ := g2; exact R.eqin1 ht g1
    · rename_i te t a hx
      split at h <;> first | cases h | skip
      rename_i te2 t2 el sz hl
      have ht := (hc.ty _ _ hl).eb te2 t2 rfl
      refine ⟨_, h, fun W e eh oh hs => ⟨_, DR.bool, fun dst ty pos af gd => ?_⟩⟩
      obtain ⟨cs, g1, g2, _⟩ := get_v hs.env hx
      obtain ⟨_, g2⟩ := g2
      cases a with
      | none => have g2 : cs = [.nilIface] := g2; subst g2; exact R.nein0 ht g1
      | some y => obtain ⟨ad, cs', rfl, _⟩ := g2; exact R.nein1 ht g1
    · exact binE_ok (fun hb => by obtain ⟨i, hi, ho⟩ := isTyOk hc.ty hb; exact ho.bool hi) h
  case unOp op tx x => exact lift (unE_ok (by simpa only [valE] using h))
  case convert s t x => exact lift (convert_ok hc h)
  case load t a => exact lift (loadV_ok hc.ty (by simpa only [valE] using h))
  case build t ps => exact lift (build_ok hc h)
  case slice tx x lo hi mx =>
    refine lift ?_
    simp only [valE] at h
    split at h
    · exact sliceV_ok hc.ty h
    · cases h
  case fieldAddr s x f => exact lift (fieldAddr_ok hc h)
  case indexAddr tx x i => exact lift (indexAddr_ok hc h)
  case index tx x i => exact lift (index_ok hc h)
  case extract x i => exact lift (extract_ok h)
  case makeInterface t x => exact lift (makeI_ok hc h)
  case call cl =>
    obtain ⟨callee, args, tys⟩ := cl
    cases callee with
    | builtin b =>
      refine lift ?_
      cases b <;> first | (simp only [valE] at h; cases h; done) | skip
      case len =>
        simp only [valE] at h
        split at h <;> first | cases h | skip
        rename_i x t h1 h2
        exact lenV_ok hc.ty h1 h2 h
      case max => exact maxmin_ok (.inl rfl) h
      case min => exact maxmin_ok (.inr rfl) h
    | invoke x m => simp only [valE] at h; cases h
    | value f => cases hq
theorem valE_ok {o : Op} (h : valE c o S kk = some r) : ∃ d, kk d = some r ∧ POk P N C G S o d := by
  cases hq : quietOp o with
  | true => obtain ⟨d, h1, h2⟩ := valV_ok hc hq h; exact ⟨d, h1, h2.pok⟩
  | false =>
  cases o <;> first | (cases hq; done) | skip
  case call cl =>
    obtain ⟨callee, args, tys⟩ := cl
    cases callee with
    | builtin b => cases hq
    | invoke x m => cases hq
    | value f =>
      simp only [valE] at h
      split at h <;> first | cases h | skip
      rename_i fn hf
      split at h <;> first | cases h | skip
      rename_i en hen
      cases hp : en.plain with
      | false => rw [hp] at h; cases h
      | true =>
        rw [hp] at h
        simp only [cond_true] at h
        split at h
        · rename_i z hz
          obtain ⟨q, hq, h⟩ := Option.bind_eq_some_iff.1 h
          exact ⟨_, h, plainCall_ok hc rfl hf hen hp hz hq⟩
        · cases h
end
end Go.Lf
