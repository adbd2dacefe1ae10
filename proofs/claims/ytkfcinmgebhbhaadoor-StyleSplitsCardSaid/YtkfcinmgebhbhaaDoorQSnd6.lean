/-
  Memory: what is frozen; rows that grow; stores.
-/
import Derived.Test.YtkfcinmgebhbhaaDoorQSnd5
import Derived.Deep.AppendSrc
namespace Go.Lf
open Go Go.Eng

section
variable {P : Program} {N : Nat} {C : Cx} {G : World → Prop} {w : World}

theorem add_off (a : Addr) (i : Nat) : (a.add i).block = a.block := block_add a i

/-- more cells are known for good -/
theorem phi_ext {φ : Phi} {hs : List Chunk} {ad : Addr} {xs : List Value} (hb : Hb C w hs (Inv G φ)) (hx : Box C.av hs w (fun w' => ∀ j u, xs[j]? = some u → w'.cell? (ad.add j) = some u)) :
    ∃ φ', φ.le φ' ∧ PhiAt φ' ad xs ∧ Hb C w hs (Inv G φ') := by
  classical
  let φ' : Phi := fun a => if ∃ j, j < xs.length ∧ a = ad.add j then w.cell? a else φ a
  have hin : ∀ j, j < xs.length → φ' (ad.add j) = w.cell? (ad.add j) := fun j hj => if_pos ⟨j, hj, rfl⟩
  refine ⟨φ', fun a v hv => ?_, fun j v hv => ?_, ⟨hb.hp, fun w' x => ?_⟩⟩
  · by_cases h : ∃ j, j < xs.length ∧ a = ad.add j
    · show (if _ then _ else _) = _
      rw [if_pos h]; exact hb.get.2 a v hv
    · show (if _ then _ else _) = _
      rw [if_neg h]; exact hv
  · rw [hin j (List.getElem?_eq_some_iff.1 hv).1]
    exact hx.get j v hv
  · refine ⟨(hb.box w' x).1, fun a v hv => ?_⟩
    by_cases h : ∃ j, j < xs.length ∧ a = ad.add j
    · have hv' : w.cell? a = some v := by
        have : φ' a = w.cell? a := if_pos h
        rw [← this]; exact hv
      obtain ⟨j, hj, rfl⟩ := h
      have h1 := hx.get j _ (List.getElem?_eq_getElem hj)
      rw [hv'] at h1
      rw [hx w' x j _ (List.getElem?_eq_getElem hj), ← h1]
    · have hv' : φ a = some v := by
        have : φ' a = φ a := if_neg h
        rw [← this]; exact hv
      exact (hb.box w' x).2 a v hv'

/-- a row that grows stays owned, and what it holds is known for good -/
theorem grow_fact {φ : Phi} {A : Option Addr} {c el size n : Nat} {xs : List Value} {rest : List Chunk} (hs0 : 0 < size) (hb : Hb C w (.row true (.slice A n c) el size n xs :: rest) (Inv G φ)) :
    ∃ φ', φ.le φ' ∧ RdPhi φ' A n xs ∧ Hb C w (.row true (.slice A n c) el size n xs :: rest) (Inv G φ') := by
  have hown : w.ownsRow 0 el size (.slice A n c) n xs := hb.hp.hold _ List.mem_cons_self
  rcases hown.2 with ⟨hv, hn⟩ | ⟨g, cap, cur, hv, _⟩
  · exact ⟨φ, φ.le_refl, fun h => absurd h (by omega), hb⟩
  · injection hv with hA
    subst hA
    obtain ⟨φ', h1, h2, h3⟩ := phi_ext hb (hb.rowfact (g := g) List.mem_cons_self rfl)
    exact ⟨φ', h1, fun _ => ⟨_, rfl, h2⟩, h3⟩

/-- a row is let go: it no more turns -/
theorem freeze_row {φ : Phi} {p : Bool} {A : Option Addr} {c el size n : Nat} {xs : List Value} {rest : List Chunk} (hb : Hb C w (.row p (.slice A n c) el size n xs :: rest) (Inv G φ)) :
    ∃ φ', φ.le φ' ∧ RdPhi φ' A n xs ∧ Hb C w rest (Inv G φ') := by
  have hown : w.ownsRow 0 el size (.slice A n c) n xs := hb.hp.hold _ List.mem_cons_self
  have hb1 : Hb C w rest (fun w' => Inv G φ w' ∧ w'.ownsRow 0 el size (.slice A n c) n xs) := Hb.weak (ds := [_]) hb fun w' h1 h2 => ⟨h1, h2 _ List.mem_cons_self⟩
  rcases hown.2 with ⟨hv, hn⟩ | ⟨g, cap, cur, hv, _⟩
  · exact ⟨φ, φ.le_refl, fun h => absurd h (by omega), hb1.imp fun _ h => h.1⟩
  · injection hv with hA
    subst hA
    obtain ⟨φ', h1, h2, h3⟩ := phi_ext (hb1.imp fun _ h => h.1) (hb1.box.imp fun w' h => h.2.cells (g := g) rfl)
    exact ⟨φ', h1, fun _ => ⟨_, rfl, h2⟩, h3⟩

/-- a block is let go -/
theorem freeze_blk {φ : Phi} {g tid : Nat} {cs : List Value} {rest : List Chunk} (hb : Hb C w (blk g tid cs :: rest) (Inv G φ)) :
    ∃ φ', φ.le φ' ∧ PhiAt φ' ⟨g, 0, none⟩ cs ∧ Hb C w rest (Inv G φ') := by
  have hb1 : Hb C w rest (fun w' => Inv G φ w' ∧ (blk g tid cs).holds w') := Hb.weak (ds := [_]) hb fun w' h1 h2 => ⟨h1, h2 _ List.mem_cons_self⟩
  refine phi_ext (hb1.imp fun _ h => h.1) (hb1.box.imp fun w' h j u hu => ?_)
  have h1 := blk_cell h.2 hu
  unfold Addr.add
  split
  · rename_i hj; subst hj; exact h1
  · simpa using h1

/-- 'append' onto a row of the call's own -/
theorem run_append_row {t tx ty el size bytes : Nat} {A : Option Addr} {n c m : Nat} {xs news : List Value} {x : Value} {p : Bool} (ht : AppTy P t el size bytes) (hh : w.ownsRow 0 el size (.slice A n c) n xs) (hs : Src P size tx x m news w)
    (hbytes : (n + m) * bytes ≤ 140737488355328) (hby : 0 < bytes) :
    ∃ A' c' w', (Builtin.append_ #[t, tx] ty #[.slice A n c, x]).run P w = .ok (.slice A' (n + m) c') w' ∧ w'.ownsRow 0 el size (.slice A' (n + m) c') (n + m) (xs ++ news) ∧ Ext (fun _ => none) [.row p (.slice A n c) el size n xs] w w' ∧
      (∀ g, (Value.slice A' (n + m) c').ownBlock = some g → (Value.slice A n c).ownBlock = some g ∨ w.heap.size ≤ g) := by
  obtain ⟨i, z, h2, h3, h4, rfl, rfl, h7, h8⟩ := ht
  have hnm : n + m ≤ 140737488355328 := Nat.le_trans (Nat.le_mul_of_pos_right _ hby) hbytes
  have hmax : n + m ≤ maxLen := by unfold maxLen; omega
  have hlen : (xs ++ news).length = (n + m) * i.size := by rw [List.length_append, hh.1, hs.newsLen, Nat.add_mul]
  have fresh : ∀ cap, c < n + m → n + m ≤ cap → cap ≤ maxLen → ∀ r : Result Value, True → 
      (w.drew.alloc (.cells ((xs ++ news).toArray ++ Builtin.zeroCells z.cells (cap - (n + m))) el)).ownsRow 0 el i.size (.slice (some ⟨w.heap.size, 0, none⟩) (n + m) cap) (n + m) (xs ++ news) ∧
      Ext (fun _ => none) [.row p (.slice A n c) el i.size n xs] w (w.drew.alloc (.cells ((xs ++ news).toArray ++ Builtin.zeroCells z.cells (cap - (n + m))) el)) := by
    intro cap _ h9 h10 _ _
    have hold : ∀ k, k < w.heap.size → (w.drew.alloc (.cells ((xs ++ news).toArray ++ Builtin.zeroCells z.cells (cap - (n + m))) el)).heap[k]? = w.heap[k]? := fun k hk => heap_alloc_old w.drew _ hk
    refine ⟨⟨hlen, .inr ⟨w.heap.size, cap, _, rfl, Nat.zero_le _, heap_alloc_new w.drew _, h9, h10, ?_, ?_⟩⟩, ⟨rfl, rfl, rfl, by simp, fun k hk _ _ => hold k hk, fun k _ hk _ _ => Same.of_block (hold k hk), fun _ _ k _ hk => Same.of_block (hold k hk)⟩⟩
    · rw [Array.size_append, size_zeroCells, h7]
      have : (xs ++ news).toArray.size = (n + m) * i.size := by simpa using hlen
      rw [this, ← Nat.add_mul]
      congr 1
      omega
    · rw [Array.toList_append]
      rw [show (xs ++ news).toArray.toList = xs ++ news from rfl, ← hlen]
      exact List.take_left
  by_cases hroom : n + m ≤ c
  · -- there is room
    rcases hh.2 with ⟨hv, hn0⟩ | ⟨g, cap, cur, hv, _, hg, hnc, hcm, hcs, htk⟩
    · injection hv with e1 e2 e3
      subst e1 e3 hn0
      have hm0 : m = 0 := by omega
      subst hm0
      have hx0 : xs = [] := List.eq_nil_of_length_eq_zero (by simpa using hh.1)
      have hn0 : news = [] := List.eq_nil_of_length_eq_zero (by simpa using hs.newsLen)
      subst hx0 hn0
      refine ⟨none, 0, w, ?_, by simpa using hh, Ext.refl _ _ _, fun g hg => .inl hg⟩
      rcases hs.kind with ⟨e', hk⟩ | hk <;> simp [Builtin.append_, run_underlying h2, run_underlying hk, sizeOf, typeInfo, h3, hs.len, hs.cells]
    · injection hv with e1 e2 e3
      subst e1 e3
      have hfit : n * i.size + news.length ≤ cur.size := by rw [hs.newsLen, hcs, ← Nat.add_mul]; exact Nat.mul_le_mul_right _ hroom
      have hst := run_storeCells_at P g (n * i.size) el news 0 cur w hg (by simpa using hfit) hs.one
      simp only [Nat.add_zero] at hst
      have hrun : (Builtin.append_ #[t, tx] ty #[.slice (some ⟨g, 0, none⟩) n c, x]).run P w = .ok (.slice (some ⟨g, 0, none⟩) (n + m) c) (w.setRow g (cur.toList.take (n * i.size) ++ news ++ cur.toList.drop (n * i.size + news.length)).toArray) := by
        rcases hs.kind with ⟨e', hk⟩ | hk <;> simp [Builtin.append_, run_underlying h2, run_underlying hk, sizeOf, typeInfo, h3, hs.len, hroom, hs.cells, Addr.add_lit, hst]
      have hnew : (w.setRow g (cur.toList.take (n * i.size) ++ news ++ cur.toList.drop (n * i.size + news.length)).toArray).heap[g]? = some (.cells (cur.toList.take (n * i.size) ++ news ++ cur.toList.drop (n * i.size + news.length)).toArray el (0, 0)) := setRow_heap w g cur _ el _ hg
      have hoth : ∀ k, k ≠ g → (w.setRow g (cur.toList.take (n * i.size) ++ news ++ cur.toList.drop (n * i.size + news.length)).toArray).heap[k]? = w.heap[k]? := fun k hk => setRow_other w g k _ hk
      refine ⟨_, c, _, hrun, ⟨hlen, .inr ⟨g, c, _, rfl, Nat.zero_le _, hnew, hroom, hcm, ?_, ?_⟩⟩, ⟨rfl, rfl, rfl, by simp, fun k _ _ hf => hoth k fun e => hf (.row p (.slice (some ⟨g, 0, none⟩) n c) el i.size n xs) (by simp) (by rw [e]; rfl), fun k m' hk h => (by cases h), fun d hd k hk hlt => ?_⟩, fun g' hg' => .inl hg'⟩
      · simp only [List.size_toArray, List.length_append, List.length_take, List.length_drop, Array.length_toList]
        omega
      · show List.take _ (_ ++ _ ++ _) = _
        rw [htk, ← hlen]
        exact List.take_left
      · have : d = .row p (.slice (some ⟨g, 0, none⟩) n c) el i.size n xs := by simpa using hd
        subst this
        have hk' : g = k := by simpa [Chunk.blk, Value.ownBlock] using hk
        subst hk'
        intro a ha hoff
        have hpre : (Chunk.row p (.slice (some ⟨g, 0, none⟩) n c) el i.size n xs).pre ≤ n * i.size := by
          unfold Chunk.pre
          cases p <;> simp
        have hoff' : a.off < n * i.size := Nat.lt_of_lt_of_le hoff hpre
        simp only [World.cell?, ha, hg, hnew]
        split
        · rfl
        · have h10 : a.off < (cur.toList.take (n * i.size)).length := by
            rw [List.length_take, Array.length_toList, hcs]
            have : n * i.size ≤ c * i.size := Nat.mul_le_mul_right _ hnc
            omega
          rw [List.getElem?_toArray, List.append_assoc, List.getElem?_append_left h10, List.getElem?_take, if_pos hoff']
          simp
  · -- there is none
    have hg0 : c < n + m := by omega
    have hold : (Builtin.firstCells i.size n (.slice A n c)).run P w.drew = .ok xs.toArray w.drew := by
      rcases hh.2 with ⟨hv, hn0⟩ | ⟨g, cap, cur, hv, _⟩
      · injection hv with e1 e2 e3
        subst e1 e3 hn0
        have hx0 : xs = [] := List.eq_nil_of_length_eq_zero (by simpa using hh.1)
        subst hx0
        exact run_firstCells_none w.drew i.size 0 0 0
      · injection hv with e1 e2 e3
        subst e1
        exact run_firstCells_some w.drew i.size n ⟨g, 0, none⟩ n c xs hh.1 (by simpa using hh.cells (g := g) rfl)
    have hr := run_append_grow_src (P := P) w t tx ty el i z h2 h3 h4 A n c xs hold x m news hs hg0 (by omega) (growslice_fits hg0 hbytes)
    have hge := grownCap_ge w (n + m) c el
    have hcm := grownCap_le_maxLen w (n + m) c el hmax
    obtain ⟨q1, q2⟩ := fresh _ hg0 hge hcm (.ok default w) trivial
    exact ⟨_, _, _, hr, q1, q2, fun g hg => .inr (by simp only [Value.ownBlock, Option.some.injEq] at hg; omega)⟩
end
end Go.Lf
