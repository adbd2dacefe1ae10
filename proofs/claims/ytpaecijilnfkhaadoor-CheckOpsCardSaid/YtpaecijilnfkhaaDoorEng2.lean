import Derived.Test.YtpaecijilnfkhaaDoorEng
import Derived.Lib.AppendStr
import Derived.Laws.OwnMore
import Derived.Laws.BytesString
/-
  The engine: quotients, rows that are read, written, cut; strings and bytes.
-/
namespace Go.Eng
open Go Go.RowKit Go.Lib

section
variable {P : Program} {N : Nat} {C : Cx} {Q : Exit → Act → World → Prop} {e e' : Env} {hs hs' : List Chunk} {I J : World → Prop}
section
variable {d : Option Tmp} {ty : TypeId} {pos : String} {af : Array Edge} {gd : Option (Nat × Bool)}
variable {x y : Operand} {k : IntKind} {m n r : Int} {tx tyy : TypeId}
theorem R.quoP (hx : EV e x (.int k m)) (hy : EV e y (.int k n)) (h0 : 0 ≤ m) (h1 : 0 < n) (h : k.wrap (m / n) = r) : Run P N C e hs I ⟨d, .binOp .quo tx x y tyy, ty, pos, af, gd⟩ (.int k r) :=
  R.quo hx hy (by omega) (by rw [Int.tdiv_eq_ediv_of_nonneg h0]; exact h)
theorem R.remP (hx : EV e x (.int k m)) (hy : EV e y (.int k n)) (h0 : 0 ≤ m) (h1 : 0 < n) (h : m % n = r) : Run P N C e hs I ⟨d, .binOp .rem tx x y tyy, ty, pos, af, gd⟩ (.int k r) :=
  R.rem hx hy (by omega) (by rw [Int.tmod_eq_emod_of_nonneg h0]; exact h)
end

theorem cutA_zero {A : Option Addr} {c s : Nat} : cutA A c 0 s = A := by
  unfold cutA
  split
  · rfl
  · rw [Nat.zero_mul]
    cases A with
    | none => rfl
    | some a => simp [add_zero']

/-- An element of a row of the call's own: its place, by a fact that the row gives. -/
theorem Hb.rowRd {w : World} {A : Option Addr} {c t size n : Nat} {xs : List Value} (h : Hb C w hs I) (hc : Has hs (.row (.slice A n c) t size n xs)) : Rd w A size n xs := Rd.of_row (h.has hc)

/-- A row is cut: what is behind is let go. -/
theorem chunk_cut {w : World} {A : Option Addr} {c t size n m : Nat} {xs : List Value} (h : (Chunk.row (.slice A n c) t size n xs).holds w) (hm : m ≤ n) : (Chunk.row (.slice A m c) t size m (xs.take (m * size))).holds w := by
  obtain ⟨h1, h2⟩ := h
  refine ⟨?_, ?_⟩
  · rw [List.length_take, h1]
    have : m * size ≤ n * size := Nat.mul_le_mul_right _ hm
    omega
  · rcases h2 with ⟨h3, h4⟩ | ⟨g, cap, cur, hv, hg, hh, hn, hc, hz, ht⟩
    · injection h3 with h5 h6 h7
      subst h5 h7 h4
      have : m = 0 := by omega
      subst this
      exact .inl ⟨rfl, rfl⟩
    · injection hv with h5 h6 h7
      subst h5 h7
      refine .inr ⟨g, c, cur, rfl, hg, hh, by omega, hc, hz, ?_⟩
      rw [← ht, List.take_take]
      congr 1
      have : m * size ≤ n * size := Nat.mul_le_mul_right _ hm
      omega
theorem Hb.cutRow {w : World} {A : Option Addr} {c t size n m : Nat} {xs : List Value} (h : Hb C w hs I) (hc : Cup hs (.row (.slice A n c) t size n xs) (.row (.slice A m c) t size m (xs.take (m * size))) hs') (hm : m ≤ n) : Hb C w hs' I :=
  h.turn hc (Ext.refl _ _ _) (chunk_cut (h.hp.hold _ hc.mem) hm) (fun g hg => .inl (by
    cases A with
    | none => exact hg
    | some a => exact hg))
theorem WL.cutRow {ops : Array Oper} {l : List Oper} {A : Option Addr} {c t size n m : Nat} {xs : List Value} (hc : Cup hs (.row (.slice A n c) t size n xs) (.row (.slice A m c) t size m (xs.take (m * size))) hs') (hm : m ≤ n) (h : WL P N C ops l Q e hs' I) : WL P N C ops l Q e hs I :=
  fun a w hf hb => h a w hf (hb.cutRow hc hm)
theorem W.cutRow {c0 : Code} {A : Option Addr} {c t size n m : Nat} {xs : List Value} (hc : Cup hs (.row (.slice A n c) t size n xs) (.row (.slice A m c) t size m (xs.take (m * size))) hs') (hm : m ≤ n) (h : W P N C c0 Q e hs' I) : W P N C c0 Q e hs I :=
  fun a w hf hb => h a w hf (hb.cutRow hc hm)
/-- A block that is known whole is a row of its own. -/
theorem chunk_toRow {w : World} {g t size n : Nat} {xs : List Value} (h : (blk g t xs).holds w) (hl : xs.length = n * size) (hm : n ≤ maxLen) : (Chunk.row (.slice (some ⟨g, 0, none⟩) n n) t size n xs).holds w :=
  ⟨hl, .inr ⟨g, n, xs.toArray, rfl, Nat.zero_le _, h, Nat.le_refl _, hm, by simpa using hl, by simp [← hl]⟩⟩
theorem Hb.toRow {w : World} {g t size n : Nat} {xs : List Value} (h : Hb C w hs I) (hc : Cup hs (blk g t xs) (.row (.slice (some ⟨g, 0, none⟩) n n) t size n xs) hs') (hl : xs.length = n * size) (hm : n ≤ maxLen) : Hb C w hs' I :=
  h.turn hc (Ext.refl _ _ _) (chunk_toRow (h.hp.hold _ hc.mem) hl hm) (fun _ hg => .inl hg)
theorem WL.toRow {ops : Array Oper} {l : List Oper} {g t size n : Nat} {xs : List Value} (hc : Cup hs (blk g t xs) (.row (.slice (some ⟨g, 0, none⟩) n n) t size n xs) hs') (hl : xs.length = n * size) (hm : n ≤ maxLen) (h : WL P N C ops l Q e hs' I) : WL P N C ops l Q e hs I :=
  fun a w hf hb => h a w hf (hb.toRow hc hl hm)

section
variable {d : Tmp} {ty : TypeId} {pos : String} {af : Array Edge} {ops : Array Oper} {rest : List Oper}
/-- A store into a row of the call's own. -/
theorem WL.stoR {t tb size s j n c : Nat} {A : Option Addr} {x y : Operand} {v : Value} {vs xs xs' : List Value} (ht : tSz P t s = true) (hx : EV e x (ptA A j)) (hy : EV e y v) (hv : v.cells = vs.toArray) (hn : vs.length = s) (h1 : oneCells vs = true)
    (hc : Cup hs (.row (.slice A n c) tb size n xs) (.row (.slice A n c) tb size n xs') hs') (hp : LPut xs j vs xs') (h0 : j < xs.length) (h : WL P N C ops rest Q e hs' I) :
    WL P N C ops (⟨none, .store t x y, ty, pos, af, none⟩ :: rest) Q e hs I := by
  intro a w hf hb
  have hh : w.ownsRow 0 tb size (.slice A n c) n xs := hb.hp.hold _ hc.mem
  have hs1 := hp.spec
  rcases hh.2 with ⟨h3, h4⟩ | ⟨g, cap, cur, hv2, hg0, hg, hnc, hcm, hcs, htk⟩
  · injection h3 with h5 h6 h7
    subst h4
    have := hh.1
    simp at this
    rw [this] at h0
    simp at h0
  · injection hv2 with h5 h6 h7
    subst h5 h7
    have hln : n * size ≤ cur.size := by rw [hcs]; exact Nat.mul_le_mul_right _ hnc
    have hxl : xs.length = n * size := hh.1
    have hr0 := run_storeCells_at (P := P) g j tb vs 0 cur w hg (by have := hs1.1; omega) (fun u hu => by simpa using List.all_eq_true.1 h1 u hu)
    simp only [Nat.add_zero] at hr0
    have hpt : a.eval x = .pointer (some ((⟨g, 0, none⟩ : Addr).add j)) := hf.ev hx
    have had : (⟨g, 0, none⟩ : Addr).add j = ⟨g, j, none⟩ := by unfold Addr.add; split <;> simp_all
    have hr : (execOp a.eval ⟨none, .store t x y, ty, pos, af, none⟩).run P w = .ok .skip (w.setRow g (cur.toList.take j ++ vs ++ cur.toList.drop (j + vs.length)).toArray) := by
      rw [had] at hpt
      generalize (cur.toList.take j ++ vs ++ cur.toList.drop (j + vs.length)).toArray = NW at hr0 ⊢
      simp [execOp, hpt, hf.ev hy, Instr.storeAt, Instr.sureAddr, storeVar, run_sizeOf' ht, hv, hn, hr0]
    have hnew : (cur.toList.take j ++ vs ++ cur.toList.drop (j + vs.length)).take (n * size) = xs' := by
      have hcl : cur.toList.length = cur.size := by simp
      have h8 := hs1.1
      rw [hs1.2, ← htk]
      apply List.ext_getElem?
      intro q
      simp only [List.getElem?_take, List.getElem?_append, List.length_append, List.length_take, List.getElem?_drop, hcl]
      repeat' split
      all_goals first | rfl | omega | (congr 1; omega) | (exfalso; omega)
    have hxl' : xs'.length = n * size := by
      rw [hs1.2]
      have := hs1.1
      simp
      omega
    refine wl_skip rfl rfl hr (h _ _ hf (hb.turn hc ⟨rfl, rfl, rfl, by simp, fun k hk _ hfk => setRow_other w g k _ (fun e' => hfk (.row (.slice (some ⟨g, 0, none⟩) n c) tb size n xs) (by simp) (by rw [e']; rfl))⟩ ⟨hxl', .inr ⟨g, c, _, rfl, hg0, setRow_heap w g cur _ tb _ hg, hnc, hcm, ?_, by simpa using hnew⟩⟩ (fun _ h => .inl h)))
    have h8 := hs1.1
    simp
    rw [← hcs]
    omega

/-- 'append(b, s...)', s a string -/
theorem WL.apps {t u el : TypeId} {x y : Operand} {A : Option Addr} {n c : Nat} {xs : List Value} {l : List UInt8} {hsF : Option Addr → Nat → List Chunk}
    (ht : AppTy P t el 1 1) (hz : (P.info? el).map (fun i => i.zero) = some (some (.int .u8 0))) (hu : tStr P u = true) (hx : EV e x (.slice A n c)) (hy : EV e y (str l))
    (hrow : ∀ A' c', Cup hs (.row (.slice A n c) el 1 n xs) (.row (.slice A' (n + l.length) c') el 1 (n + l.length) (xs ++ bcells l)) (hsF A' c'))
    (hbytes : n + l.length ≤ 140737488355328) (hfr : fresh N e d = true)
    (h : ∀ A' c', WL P N C ops rest Q ((d, .slice A' (n + l.length) c') :: e) (hsF A' c') I) :
    WL P N C ops (⟨some d, .call ⟨.builtin .append, #[x, y], #[t, u]⟩, ty, pos, af, none⟩ :: rest) Q e hs I := by
  intro a w hf hb
  have hh : w.ownsRow 0 el 1 (.slice A n c) n xs := hb.hp.hold _ (hrow none 0).mem
  obtain ⟨i0, z0, h2, h3, h4, h5, h6, h7, h8⟩ := ht
  have hzz : i0.zero = some (.int .u8 0) := by
    rw [h3] at hz
    simpa using hz
  have hsz : (ByteArray.mk l.toArray).size = l.length := str_size l
  have hsc : strCells ⟨l.toArray⟩ = bcells l := by simp [strCells, bcells]
  have hmx : n + l.length ≤ maxLen := by unfold maxLen; omega
  have hxl : xs.length = n := by simpa using hh.1
  have hrun : ∃ A' c' w', (Builtin.append_ #[t, u] ty #[.slice A n c, str l]).run P w = .ok (.slice A' (n + l.length) c') w' ∧ w'.ownsRow 0 el 1 (.slice A' (n + l.length) c') (n + l.length) (xs ++ bcells l) ∧
      w.grownBy w' (Value.slice A n c).ownBlock ∧ ((Value.slice A' (n + l.length) c').ownBlock = (Value.slice A n c).ownBlock ∨ (Value.slice A' (n + l.length) c').ownBlock = some w.heap.size) := by
    obtain ⟨v', w', hr, ho, hgr, hiff⟩ := run_append_own_string (P := P) w 0 t u ty el i0 h2 (tStr_spec hu) h3 hzz h5 h6 (.slice A n c) n xs hh ⟨l.toArray⟩ (by rw [hsz]; exact hmx) (by rw [hsz]; exact hbytes) (Nat.zero_le _)
    rw [hsz] at ho
    rw [hsc] at ho
    have key : v'.ownBlock = (Value.slice A n c).ownBlock ∨ v'.ownBlock = some w.heap.size ∨ v'.ownBlock = none := by
      have hr' := hr
      rcases hh.2 with ⟨h12, h13⟩ | ⟨g, cap, cur, h12, _, hg, hnc, hcm, hcs, htk⟩
      · injection h12 with h14 h15 h16
        subst h14 h16 h13
        by_cases hm : l.length = 0
        · refine .inr (.inr ?_)
          have hf2 := run_firstCells_string (P := P) w 1 ⟨l.toArray⟩
          rw [hsz, hm] at hf2
          simp [Builtin.append_, run_underlying h2, run_underlying (tStr_spec hu), sizeOf, typeInfo, h3, h5, Builtin.lenOf, hsz, hm, hf2] at hr'
          rw [← hr'.1]
          rfl
        · have h17 := run_append_nil_string (P := P) w t u ty el i0 (.int .u8 0) h2 (tStr_spec hu) h3 hzz ⟨l.toArray⟩ (by rw [hsz]; omega) (by rw [hsz]; omega) (by rw [h6, hsz]; omega)
          rw [h17] at hr'
          injection hr' with h18 h19
          subst h18
          exact .inr (.inl rfl)
      · injection h12 with h14 h15 h16
        subst h14 h16
        by_cases hroom : n + l.length ≤ c
        · have h17 := run_append_room_string (P := P) w t u ty el i0 h2 (tStr_spec hu) h3 h5 g n c cur hg ⟨l.toArray⟩ (by rw [hsz]; exact hroom) (by rw [hsz, hcs]; omega)
          rw [h17] at hr'
          injection hr' with h18 h19
          subst h18
          exact .inl rfl
        · have h17 := run_append_grow_string (P := P) w t u ty el i0 (.int .u8 0) h2 (tStr_spec hu) h3 hzz ⟨g, 0, none⟩ n c xs (by rw [h5]; simpa using hxl) (hh.cells (g := g) rfl) ⟨l.toArray⟩ (by rw [hsz]; omega) (by rw [hsz]; omega) (by rw [h6, hsz]; exact growslice_fits (by omega) (by omega))
          rw [h17] at hr'
          injection hr' with h18 h19
          subst h18
          exact .inr (.inl rfl)
    rcases ho.2 with ⟨h20, h21⟩ | ⟨g, cap, cur, h20, hx2⟩
    · subst h20
      refine ⟨none, 0, w', by rw [h21]; exact hr, by rw [h21]; rw [h21] at ho; exact ho, hgr, ?_⟩
      have h22 := (hiff.1 rfl).1
      rw [h22]
      exact .inl rfl
    · subst h20
      refine ⟨_, cap, w', hr, ho, hgr, ?_⟩
      rcases key with k1 | k1 | k1
      · exact .inl k1
      · exact .inr k1
      · cases k1
  obtain ⟨A', c', w', hr0, h12, h13, h14⟩ := hrun
  have hr : (execOp a.eval ⟨some d, .call ⟨.builtin .append, #[x, y], #[t, u]⟩, ty, pos, af, none⟩).run P w = .ok (.value (.slice A' (n + l.length) c')) w' := by
    simp [execOp, resolve, invoke, builtin, hf.ev hx, hf.ev hy, hr0]
  refine wl_step rfl hr (h A' c' _ _ (hf.put hfr) (hb.turn (hrow A' c') ⟨h13.os, h13.tape, h13.output, h13.size, fun k hk _ hfk => h13.block k hk fun e' => ?_⟩ h12 fun g hg => ?_))
  · exact hfk (.row (.slice A n c) el 1 n xs) (by simp) e'.symm
  · rcases h14 with h15 | h15
    · exact .inl (h15.symm.trans hg)
    · have : some w.heap.size = some g := h15.symm.trans hg
      injection this with this
      exact .inr (by omega)
end

section
variable {d : Option Tmp} {ty : TypeId} {pos : String} {af : Array Edge} {gd : Option (Nat × Bool)}
theorem foldl_push (l : List UInt8) (s : ByteArray) : (l.map fun b => (b.toNat : Int)).foldl (fun r n => r.push (UInt8.ofNat n.toNat)) s = ⟨s.data ++ l.toArray⟩ := by
  induction l generalizing s with
  | nil => simp
  | cons x r ih =>
    rw [List.map_cons, List.foldl_cons, ih]
    congr 1
    simp [ByteArray.push]
def tByt (P : Program) (t e : TypeId) : Bool := (match P.underlying t with | some (.slice e') => Nat.beq e e' | _ => false) && (match P.underlying e with | some (.int .u8) => true | _ => false)
/-- 'string(b)' -/
theorem R.cvbs {src dst el : TypeId} {x : Operand} {A : Option Addr} {n c : Nat} {l : List UInt8} (ht : tByt P src el = true) (hd : tStr P dst = true) (hx : EV e x (.slice A n c)) (hn : n = l.length) (hA : ∀ w, Hb C w hs I → RdB w A l) :
    Run P N C e hs I ⟨d, .convert src dst x, ty, pos, af, gd⟩ (str l) := fun a w hf hb => by
  subst hn
  unfold tByt at ht
  simp only [Bool.and_eq_true] at ht
  have h1 : P.underlying src = some (.slice el) := by
    have h := ht.1
    split at h
    · rename_i e2 he
      have : el = e2 := by simpa using h
      rw [this]; exact he
    · cases h
  have h2 : P.underlying el = some (.int .u8) := by
    have h := ht.2
    split at h
    · rename_i he; exact he
    · cases h
  have hr := hA w hb
  have h3 : (convert src dst (.slice A l.length c)).run P w = .ok (str l) w := by
    rw [run_convert_bytes_string w src dst el A l.length c h1 h2 (tStr_spec hd)]
    cases A with
    | none =>
      have : l = [] := by
        rcases l with _ | ⟨b, r⟩
        · rfl
        · obtain ⟨ad, h4, _⟩ := hr.2 (by simp [bcells])
          cases h4
      subst this
      rfl
    | some ad =>
      have h5 := run_bytesToString (P := P) w ad l.length c (l.map fun b => (b.toNat : Int)) (by
        have := run_loadCellsFrom' (P := P) (a := ad) (w := w) (bcells l) 0 #[] (fun j v hj => by
          obtain ⟨ad', h6, h7⟩ := Rd.cell hr hj
          injection h6 with h6
          subst h6
          simpa using h7)
        rw [bcells_length] at this
        simpa [loadCells, bcells, Function.comp_def] using this)
      rw [h5, foldl_push]
      simp
  simp [execOp, hf.ev hx, h3]
end
end
/-! rows of strings, of records -/
def scells (l : List (List UInt8)) : List Value := l.map str
theorem scells_length (l : List (List UInt8)) : (scells l).length = l.length := by simp [scells]
theorem scells_get {l : List (List UInt8)} {j : Nat} {b : List UInt8} (h : l[j]? = some b) : (scells l)[j]? = some (str b) := by simp [scells, h]
theorem scells_one (l : List (List UInt8)) : oneCells (scells l) = true := by simp [oneCells, scells, Value.oneCell']
theorem scells_snoc (l : List (List UInt8)) (b : List UInt8) : scells l ++ [str b] = scells (l ++ [b]) := by simp [scells]
def RdS (w : World) (A : Option Addr) (l : List (List UInt8)) : Prop := Rd w A 1 l.length (scells l)
theorem RdS.cell {w : World} {A : Option Addr} {l : List (List UInt8)} (h : RdS w A l) {j : Nat} {b : List UInt8} (hj : l[j]? = some b) : cellA w A j (str b) := Rd.cell h (scells_get hj)
theorem RdS.ne {w : World} {A : Option Addr} {l : List (List UInt8)} (h : RdS w A l) (hn : 0 < l.length) : A ≠ none := Rd.ne h (by rw [scells_length]; exact hn)
/-- A slice reads as records, each of z cells. -/
def RdF {α : Type} (f : α → List Value) (z : Nat) (w : World) (A : Option Addr) (l : List α) : Prop := (∀ x, (f x).length = z) ∧ Rd w A z l.length (flat f l)
theorem flat_snoc {α : Type} (f : α → List Value) (l : List α) (x : α) : flat f l ++ f x = flat f (l ++ [x]) := by simp [flat]
section
variable {α : Type} {f : α → List Value} {z : Nat} {w : World} {A : Option Addr} {l : List α}
theorem RdF.cell (h : RdF f z w A l) {j k : Nat} {x : α} {v : Value} (hj : l[j]? = some x) (hv : (f x)[k]? = some v) : cellA w A (j * z + k) v :=
  Rd.cell h.2 (by have := flat_get (b := []) h.1 hj hv; simpa using this)
theorem RdF.ne (h : RdF f z w A l) {j : Nat} (hj : j < l.length) (hz : 0 < z) : A ≠ none := Rd.ne h.2 (by rw [flat_length h.1]; exact Nat.mul_pos (by omega) hz)
theorem RdF.nil (h : ∀ x, (f x).length = z) : RdF f z w A [] := ⟨h, by simpa [flat] using Rd.nil (w := w) (A := A) (size := z)⟩
theorem RdF.of_row {c t n : Nat} (hf : ∀ x, (f x).length = z) (h : w.ownsRow 0 t z (.slice A n c) n (flat f l)) (hz : 0 < z) : RdF f z w A l := by
  have h1 := Rd.of_row h
  have h2 := h1.1
  rw [flat_length hf] at h2
  have : l.length = n := Nat.eq_of_mul_eq_mul_right hz h2
  exact ⟨hf, by rw [this]; exact h1⟩
end

section
variable {P : Program} {N : Nat} {C : Cx} {e : Env} {hs : List Chunk} {I : World → Prop}
variable {d : Option Tmp} {ty : TypeId} {pos : String} {af : Array Edge} {gd : Option (Nat × Bool)}
theorem R.ixS {tx el : TypeId} {x y : Operand} {A : Option Addr} {l : List (List UInt8)} {n c j : Nat} {k : IntKind} {i : Int} (ht : tSl P tx el 1 = true) (hx : EV e x (.slice A n c)) (hn : n = l.length) (hy : EV e y (.int k i)) (hij : i = (j : Int)) (hj : j < l.length)
    (hA : ∀ w, Hb C w hs I → RdS w A l) : Run P N C e hs I ⟨d, .indexAddr tx x y, ty, pos, af, gd⟩ (ptA A j) := by
  have := R.ixa (P := P) (N := N) (C := C) (e := e) (hs := hs) (I := I) (d := d) (ty := ty) (pos := pos) (af := af) (gd := gd) ht hx hy hij (by omega) fun w hb => (hA w hb).ne (by omega)
  simpa using this
theorem R.ixF {α : Type} {f : α → List Value} {z : Nat} {tx el : TypeId} {x y : Operand} {A : Option Addr} {l : List α} {n c j : Nat} {k : IntKind} {i : Int} (ht : tSl P tx el z = true) (hx : EV e x (.slice A n c)) (hn : n = l.length) (hy : EV e y (.int k i)) (hij : i = (j : Int)) (hj : j < l.length) (hz : 0 < z)
    (hA : ∀ w, Hb C w hs I → RdF f z w A l) : Run P N C e hs I ⟨d, .indexAddr tx x y, ty, pos, af, gd⟩ (ptA A (j * z)) :=
  R.ixa ht hx hy hij (by omega) fun w hb => (hA w hb).ne hj hz
theorem R.fapk {s f o j k k2 : Nat} {x : Operand} {Ad : Option Addr} (ht : tFo P s f o = true) (hx : EV e x (ptA Ad (j + k))) (hk : k + o = k2) (hA : ∀ w, Hb C w hs I → Ad ≠ none) : Run P N C e hs I ⟨d, .fieldAddr s x f, ty, pos, af, gd⟩ (ptA Ad (j + k2)) := by
  have := R.fap (P := P) (N := N) (C := C) (e := e) (hs := hs) (I := I) (d := d) (ty := ty) (pos := pos) (af := af) (gd := gd) ht hx hA
  rw [Nat.add_assoc, hk] at this
  exact this
theorem R.ldpF {α : Type} {f : α → List Value} {z : Nat} {t j k n : Nat} {x : Operand} {Ad : Option Addr} {l : List α} {a : α} {vs : List Value} (ht : tAg P t n = true) (hx : EV e x (ptA Ad (j * z + k))) (hA : ∀ w, Hb C w hs I → RdF f z w Ad l) (hj : l[j]? = some a) (hv : LGet (f a) k n vs) (hz : 0 < z) :
    Run P N C e hs I ⟨d, .load t x, ty, pos, af, gd⟩ (.agg vs.toArray) :=
  R.ldpa ht hv.spec.1 hx (fun w hb => (hA w hb).ne (List.getElem?_eq_some_iff.1 hj).1 hz) (fun w hb i v hi => by
    rw [Nat.add_assoc]
    exact (hA w hb).cell hj (hv.spec.2 i v hi))
end
end Go.Eng
