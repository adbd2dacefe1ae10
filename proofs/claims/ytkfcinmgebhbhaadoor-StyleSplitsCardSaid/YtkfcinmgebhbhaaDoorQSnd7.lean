/-
  Objects that are written; heads of slices that move.
-/
import Derived.Test.YtkfcinmgebhbhaaDoorQSnd6
namespace Go.Lf
open Go Go.Eng

section
variable {P : Program} {N : Nat} {C : Cx} {G : World → Prop} {c : Ctx} {S : St} {a : Act} {w : World}
variable {W : Wit} {e : Env} {eh oh : List Chunk}

theorem upd_self {α : Type} (f : Nat → α) (j : Nat) (x : α) : upd f j x j = x := if_pos rfl
theorem TupR.mono {φ ψ : Phi} (hle : φ.le ψ) {l : List Dn} {vs : List Value} {h : List Chunk} (ht : TupR φ l vs h) : TupR ψ l vs h := by
  induction ht with
  | nil => exact .nil
  | cons h1 h2 _ ih => exact .cons h1 (h2.mono hle) ih

/-- the same of a slot, where more is known, and another object's cells are others -/
theorem DR.move {W' : Wit} {d : D} {v : Value} {h : List Chunk} (hd : DR W d v h) (hle : W.φ.le W'.φ) (hadr : W'.adr = W.adr) (h1 : ∀ i p o, d = .aref i p o → (W'.hd i)[o]? = (W.hd i)[o]?) (h2 : ∀ i p o n z q qo, d = .ael i p o n z q qo → (W'.hd i)[o]? = (W.hd i)[o]?) : DR W' d v h := by
  cases d with
  | v t x => obtain ⟨cs, q1, q2, q3⟩ := hd; exact ⟨cs, q1, q2, q3.mono hle⟩
  | ref j p o => obtain ⟨q1, q2⟩ := hd; exact ⟨by rw [hadr]; exact q1, q2⟩
  | fro t x => obtain ⟨ad, cs, q1, q2, q3, q4⟩ := hd; exact ⟨ad, cs, q1, q2.mono hle, q3.mono hle, q4⟩
  | aref j p o => obtain ⟨q1, q2⟩ := hd; exact ⟨by rw [h1 _ _ _ rfl]; exact q1, q2⟩
  | ael j p o n z q qo => obtain ⟨A, m, cc, q1, q2, q3⟩ := hd; exact ⟨A, m, cc, by rw [h2 _ _ _ _ _ _ _ rfl]; exact q1, q2, q3⟩
  | tup l => obtain ⟨vs, q1, q2⟩ := hd; exact ⟨vs, q1, q2.mono hle⟩
  | _ => exact hd
theorem EnvR.mono {W' : Wit} {l : List (Nat × D)} {hs : List Chunk} (h : EnvR W l e hs) (hle : W.φ.le W'.φ) (hadr : W'.adr = W.adr) (hhd : W'.hd = W.hd) : EnvR W' l e hs := by
  induction h with
  | nil => exact .nil
  | cons h1 _ ih => exact .cons (h1.move hle hadr (fun _ _ _ _ => by rw [hhd]) (fun _ _ _ _ _ _ _ _ => by rw [hhd])) ih
theorem ObR.mono {W' : Wit} {l : List (Nat × Ob)} {hs : List Chunk} (h : ObR W l hs) (hle : W.φ.le W'.φ) (hadr : W'.adr = W.adr) (hhd : W'.hd = W.hd) : ObR W' l hs := by
  induction h with
  | nil => exact .nil
  | cons h1 _ ih =>
    obtain ⟨h0, q1, q2⟩ := h1
    exact .cons ⟨h0, by rw [hhd]; exact q1.mono hle, by rw [hhd, hadr]; exact q2⟩ ih
theorem SRel.mono {φ' : Phi} (h : SRel S W e eh oh) (hle : W.φ.le φ') : SRel S ⟨φ', W.adr, W.hd⟩ e eh oh := ⟨h.env.mono hle rfl rfl, h.obs.mono hle rfl rfl, h.nd⟩

/-- slots, where a part of an object's cells is written -/
theorem EnvR.kill {φ' : Phi} {l : List (Nat × D)} {hs : List Chunk} (h : EnvR W l e hs) (hle : W.φ.le φ') {j o n : Nat} {cs : List Value} (hcs : ∀ o', ¬ (o ≤ o' ∧ o' < o + n) → cs[o']? = (W.hd j)[o']?) :
    EnvR ⟨φ', W.adr, upd W.hd j cs⟩ (killE j o n l) e hs := by
  have key : ∀ (i o' : Nat), ¬ (j = i ∧ o ≤ o' ∧ o' < o + n) → ((upd W.hd j cs) i)[o']? = (W.hd i)[o']? := fun i o' hn => by
    unfold upd
    split
    · rename_i he
      subst he
      exact hcs o' fun h => hn ⟨rfl, h⟩
    · rfl
  have tst : ∀ (i o' : Nat), (Nat.beq j i && Nat.ble o o' && Nat.blt o' (o + n)) = false → ¬ (j = i ∧ o ≤ o' ∧ o' < o + n) := fun i o' hb ⟨e1, e2, e3⟩ => by
    subst e1
    have h1 : Nat.ble o o' = true := Nat.ble_eq_true_of_le e2
    have h2 : Nat.blt o' (o + n) = true := by simpa [Nat.blt_eq] using e3
    rw [Nat.beq_refl, h1, h2] at hb
    cases hb
  induction h with
  | nil => exact .nil
  | @cons k d v h hs l e h1 h2 ih =>
    cases d with
    | aref i p o' =>
      unfold killE
      cases hb : (Nat.beq j i && Nat.ble o o' && Nat.blt o' (o + n)) with
      | true => exact .cons (show DR _ .und v h from h1.2) ih
      | false => exact .cons (h1.move hle rfl (fun _ _ _ he => by cases he; exact key _ _ (tst _ _ hb)) (fun _ _ _ _ _ _ _ he => by cases he)) ih
    | ael i p o' m z q qo =>
      unfold killE
      cases hb : (Nat.beq j i && Nat.ble o o' && Nat.blt o' (o + n)) with
      | true =>
        obtain ⟨A, m, cc, _, _, h3⟩ := h1
        exact .cons (show DR _ .und v h from h3) ih
      | false => exact .cons (h1.move hle rfl (fun _ _ _ he => by cases he) (fun _ _ _ _ _ _ _ he => by cases he; exact key _ _ (tst _ _ hb))) ih
    | _ => exact .cons (h1.move hle rfl (fun _ _ _ he => by cases he) (fun _ _ _ _ _ _ _ he => by cases he)) ih
theorem EnvR.killJ0 {l : List (Nat × D)} {hs : List Chunk} (h : EnvR W l e hs) (j : Nat) : EnvR W (Lf.killJ j l) e hs := by
  have h1 := h.killJ j (W.adr j) (W.hd j)
  have e1 : upd W.adr j (W.adr j) = W.adr := by funext i; unfold upd; split <;> simp_all
  have e2 : upd W.hd j (W.hd j) = W.hd := by funext i; unfold upd; split <;> simp_all
  rw [e1, e2] at h1
  exact h1

/-- an object among others -/
theorem ObR.set {l : List (Nat × Ob)} {hs : List Chunk} (h : ObR W l hs) (nd : (l.map (·.1)).Nodup) {j : Nat} {ob : Ob} (hj : Lf.look l j = some ob) :
    ∃ h0 r, ObOk W j ob h0 ∧ hs.Perm (h0 ++ r) ∧ (∀ (φ' : Phi) (cs : List Value) (ob' : Ob) (h' : List Chunk), W.φ.le φ' → ObOk ⟨φ', W.adr, upd W.hd j cs⟩ j ob' h' → ∃ hs', ObR ⟨φ', W.adr, upd W.hd j cs⟩ (putl l j ob') hs' ∧ hs'.Perm (h' ++ r)) ∧
      (∀ (φ' : Phi), W.φ.le φ' → ∃ hs', ObR ⟨φ', W.adr, W.hd⟩ (dell l j) hs' ∧ hs'.Perm r) := by
  induction h with
  | nil => cases hj
  | @cons i ob0 h hs l h1 h2 ih =>
    simp only [List.map_cons, List.nodup_cons] at nd
    have others : ∀ (φ' : Phi) (cs : List Value) (j : Nat), W.φ.le φ' → j ∉ l.map (·.1) → ObR ⟨φ', W.adr, upd W.hd j cs⟩ l hs := fun φ' cs j hle hn => by
      have h3 := h2.other hn (W.adr j) cs
      have e1 : upd W.adr j (W.adr j) = W.adr := by funext i; unfold upd; split <;> simp_all
      rw [e1] at h3
      exact h3.mono hle rfl rfl
    rw [look_cons] at hj
    split at hj
    · rename_i he
      subst he
      simp only [Option.some.injEq] at hj
      subst hj
      refine ⟨h, hs, h1, List.Perm.refl _, fun φ' cs ob' h' hle hok => ?_, fun φ' hle => ?_⟩
      · rw [putl_cons, if_pos rfl]
        exact ⟨h' ++ hs, .cons hok (others φ' cs i hle nd.1), List.Perm.refl _⟩
      · rw [dell_cons, if_pos rfl]
        have : dell l i = l := by
          have : ∀ (l : List (Nat × Ob)), i ∉ l.map (·.1) → dell l i = l := fun l => by
            induction l with
            | nil => intro _; rfl
            | cons p q ih =>
              intro hn
              simp only [List.map_cons, List.mem_cons, not_or] at hn
              rw [show p = (p.1, p.2) from rfl, dell_cons, if_neg fun e => hn.1 e.symm, ih hn.2]
          exact this l nd.1
        rw [this]
        exact ⟨hs, h2.mono hle rfl rfl, List.Perm.refl _⟩
    · rename_i hne
      obtain ⟨h0, r, q1, q2, q3, q4⟩ := ih nd.2 hj
      refine ⟨h0, h ++ r, q1, (q2.append_left h).trans (by rw [← List.append_assoc, ← List.append_assoc]; exact List.perm_append_comm.append_right r), fun φ' cs ob' h' hle hok => ?_, fun φ' hle => ?_⟩
      · obtain ⟨hs', g1, g2⟩ := q3 φ' cs ob' h' hle hok
        rw [putl_cons, if_neg hne]
        refine ⟨h ++ hs', .cons ?_ g1, (g2.append_left h).trans (by rw [← List.append_assoc, ← List.append_assoc]; exact List.perm_append_comm.append_right r)⟩
        obtain ⟨h00, p1, p2⟩ := h1
        have e3 : upd W.hd j cs i = W.hd i := by unfold upd; rw [if_neg hne]
        refine ⟨h00, ?_, ?_⟩
        · show Rp φ' ob0.t ob0.x (upd W.hd j cs i) h00
          rw [e3]; exact p1.mono hle
        · show h = match ob0.tid with | some tid => blk (W.adr i) tid (upd W.hd j cs i) :: h00 | none => h00
          rw [e3]; exact p2
      · obtain ⟨hs', g1, g2⟩ := q4 φ' hle
        rw [dell_cons, if_neg hne]
        obtain ⟨h00, p1, p2⟩ := h1
        exact ⟨h ++ hs', .cons ⟨h00, p1.mono hle, p2⟩ g1, g2.append_left h⟩

theorem putl_keys' {α : Type} (l : List (Nat × α)) (k : Nat) (v : α) (h : k ∈ l.map (·.1)) : (putl l k v).map (·.1) = l.map (·.1) := by
  induction l with
  | nil => simp at h
  | cons p r ih =>
    rw [show p = (p.1, p.2) from rfl, putl_cons]
    split
    · rename_i he; simp [he]
    · rename_i he
      simp only [List.map_cons, List.mem_cons] at h ⊢
      rw [ih (h.resolve_left fun e => he e.symm)]
theorem look_mem {α : Type} {l : List (Nat × α)} {k : Nat} {v : α} (h : look l k = some v) : k ∈ l.map (·.1) := by
  induction l with
  | nil => cases h
  | cons p r ih =>
    rw [show p = (p.1, p.2) from rfl, look_cons] at h
    split at h
    · rename_i he; simp [he]
    · simp [ih h]
theorem dell_nodup {α : Type} {l : List (Nat × α)} (k : Nat) (h : (l.map (·.1)).Nodup) : ((dell l k).map (·.1)).Nodup ∧ ∀ i, i ∈ (dell l k).map (·.1) → i ∈ l.map (·.1) := by
  induction l with
  | nil => exact ⟨h, fun i hi => hi⟩
  | cons p r ih =>
    simp only [List.map_cons, List.nodup_cons] at h
    obtain ⟨h1, h2⟩ := ih h.2
    rw [show p = (p.1, p.2) from rfl, dell_cons]
    split
    · exact ⟨h1, fun i hi => List.mem_cons_of_mem _ (h2 i hi)⟩
    · refine ⟨?_, fun i hi => ?_⟩
      · simp only [List.map_cons, List.nodup_cons]
        exact ⟨fun hp => h.1 (h2 _ hp), h1⟩
      · simp only [List.map_cons, List.mem_cons] at hi ⊢
        exact hi.imp id (h2 i)

def obBlk (W : Wit) (j : Nat) (tid : Option Nat) (cs : List Value) : List Chunk := match tid with | some tid => [blk (W.adr j) tid cs] | none => []

/-- a part of an object is written -/
theorem setO_ok {j : Nat} {p : List Dir} {o : Nat} {y : Dn} {S' : St} (h : S.setO j p o y = some S') (hs : SRel S W e eh oh) :
    ∃ ob pre mid post h1 h2 h3 r s, look S.objs j = some ob ∧ S.at j p o = some s ∧ y.1.er = s.1.er ∧ W.hd j = pre ++ mid ++ post ∧ pre.length = o ∧ Rp W.φ s.1 s.2 mid h2 ∧ oh.Perm (obBlk W j ob.tid (W.hd j) ++ (h1 ++ h2 ++ h3) ++ r) ∧
      ∀ (φ' : Phi) (mid' : List Value) (h2' : List Chunk), W.φ.le φ' → Rp φ' y.1 y.2 mid' h2' →
        ∃ oh', SRel S' ⟨φ', W.adr, upd W.hd j (pre ++ mid' ++ post)⟩ e eh oh' ∧ oh'.Perm (obBlk W j ob.tid (pre ++ mid' ++ post) ++ (h1 ++ h2' ++ h3) ++ r) := by
  unfold St.setO at h
  split at h <;> first | cases h | skip
  rename_i ob hob
  cases hb : Nat.beq (offP ob.t p) o with
  | false => rw [hb] at h; cases h
  | true =>
    rw [hb] at h
    simp only [cond_true] at h
    have ho := Nat.eq_of_beq_eq_true hb
    split at h <;> first | cases h | skip
    rename_i z hz
    obtain ⟨h0, r, ⟨hc, q1, q2⟩, q3, q4, _⟩ := hs.obs.set hs.nd hob
    obtain ⟨pre, mid, post, h1, h2, h3, s, g0, g1, g2, g3, g4, g5, g6, g7, g8⟩ := setP_ok hz q1
    have hat : S.at j p o = some s := by unfold St.at; rw [hob]; simp only [hb, cond_true, g0]
    have hsz : y.1.size = s.1.size := by rw [← Ty.er_size y.1, ← Ty.er_size s.1, g1]
    refine ⟨ob, pre, mid, post, h1, h2, h3, r, s, hob, hat, g1, g2, by rw [g3, ho], g5, q3.trans (by rw [q2, g4]; unfold obBlk; cases ob.tid <;> simp), fun φ' mid' h2' hle hr => ?_⟩
    have hrz := g8 φ' mid' h2' hle hr
    obtain ⟨hs', k1, k2⟩ := q4 φ' (pre ++ mid' ++ post) ⟨ob.tid, z.1, z.2⟩ (match ob.tid with | some tid => blk (W.adr j) tid (pre ++ mid' ++ post) :: (h1 ++ h2' ++ h3) | none => (h1 ++ h2' ++ h3)) hle ⟨h1 ++ h2' ++ h3, by show Rp φ' z.1 z.2 (upd W.hd j (pre ++ mid' ++ post) j) _; rw [upd_self]; exact hrz, by show _ = match ob.tid with | some tid => blk (W.adr j) tid (upd W.hd j (pre ++ mid' ++ post) j) :: (h1 ++ h2' ++ h3) | none => (h1 ++ h2' ++ h3); rw [upd_self]⟩
    refine ⟨hs', ⟨?_, k1, ?_⟩, k2.trans ?_⟩
    · refine hs.env.kill hle fun o' hn => ?_
      have hml : mid'.length = mid.length := by rw [hr.len, hsz, g5.len]
      rw [g2]
      have hpl : pre.length = o := by rw [g3, ho]
      have hmz : mid'.length = y.1.size := hr.len
      by_cases hlt : o' < o
      · rw [List.append_assoc, List.append_assoc, List.getElem?_append_left (by omega), List.getElem?_append_left (by omega)]
      · have hge : o + y.1.size ≤ o' := by
          rcases Nat.lt_or_ge o' (o + y.1.size) with h9 | h9
          · exact absurd ⟨by omega, h9⟩ hn
          · exact h9
        rw [List.append_assoc, List.append_assoc, List.getElem?_append_right (by omega), List.getElem?_append_right (by omega), List.getElem?_append_right (by omega), List.getElem?_append_right (by omega), hml]
    · rw [putl_keys' _ _ _ (look_mem hob)]
      exact hs.nd
    · unfold obBlk; cases ob.tid <;> simp

theorem upd_same {α : Type} (f : Nat → α) (j : Nat) : upd f j (f j) = f := by funext i; unfold upd; split <;> simp_all

theorem Sub.of_perm_left {a b r : List Chunk} (p : a.Perm (b ++ r)) : Sub a (b ++ r) := Sub.perm p

/-- a slice's head is taken from its place -/
theorem takeA_ok {j : Nat} {p : List Dir} {o : Nat} {y : Dn} {S' : St} (h : S.takeA j p o = some (y, S')) (hs : SRel S W e eh oh) :
    ∃ v h0 oh', (W.hd j)[o]? = some v ∧ Rp W.φ y.1 y.2 [v] h0 ∧ SRel S' W e eh oh' ∧ Sub oh (h0 ++ oh') ∧ (∃ A n c, v = .slice A n c) ∧ ∃ el t, y.1 = .mr el t := by
  unfold St.takeA at h
  split at h <;> first | cases h | skip
  rename_i ob hob
  split at h
  · rename_i ht
    obtain ⟨tid, ty, x⟩ := ob
    simp only at ht h
    subst ht
    split at h <;> first | cases h | skip
    rename_i el t l
    cases ho : Nat.beq o 0 with
    | false => rw [ho] at h; cases h
    | true =>
      rw [ho] at h
      simp only [cond_true, Option.some.injEq, Prod.mk.injEq] at h
      obtain ⟨rfl, rfl⟩ := h
      have ho := Nat.eq_of_beq_eq_true ho
      subst ho
      obtain ⟨h0, r, ⟨hc, q1, q2⟩, q3, _, q4⟩ := hs.obs.set hs.nd hob
      obtain ⟨oh', k1, k2⟩ := q4 W.φ W.φ.le_refl
      obtain ⟨A, cc, css, m1, m2⟩ := q1
      refine ⟨.slice A (List.length l) cc, hc, oh', by rw [m1]; rfl, ⟨A, cc, css, rfl, m2⟩, ⟨hs.env.killJ0 j, k1, (dell_nodup j hs.nd).1⟩, ?_, ⟨_, _, _, rfl⟩, _, _, rfl⟩
      refine (Sub.perm q3).trans ?_
      rw [q2]
      exact Sub.app (Sub.refl _) (Sub.perm k2.symm)
  · cases h
  · split at h <;> first | cases h | skip
    rename_i el t l hg
    split at h <;> first | cases h | skip
    rename_i S1 hset
    obtain ⟨ob', pre, mid, post, h1, h2, h3, r, s, g1, g2, g3, g4, g5, g6, g7, g8⟩ := setO_ok hset hs
    have he : ob' = ob := Option.some.inj (g1.symm.trans hob)
    subst he
    obtain ⟨ob2, a1, a2, a3⟩ := at_ok g2
    have he2 : ob2 = ob' := Option.some.inj (a1.symm.trans hob)
    subst he2
    have hsy : s = ⟨.mr el t, l⟩ := Option.some.inj (a3.symm.trans hg)
    subst hsy
    obtain ⟨A, cc, css, m1, m2⟩ := g6
    have m1 : mid = [.slice A (List.length l) cc] := m1
    subst m1
    obtain ⟨oh', k1, k2⟩ := g8 W.φ [.slice A (List.length l) cc] [] W.φ.le_refl ⟨A, _, cc, rfl, rfl⟩
    rw [← g4, upd_same] at k1
    rw [← g4] at k2
    refine ⟨.slice A (List.length l) cc, h2, oh', by rw [g4, ← g5]; simp, ⟨A, cc, css, rfl, m2⟩, k1, ?_, ⟨_, _, _, rfl⟩, _, _, rfl⟩
    refine (Sub.perm g7).trans (Sub.perm (List.Perm.trans ?_ (k2.symm.append_left h2)))
    have : (obBlk W j ob2.tid (W.hd j) ++ (h1 ++ h2 ++ h3) ++ r).Perm (h2 ++ (obBlk W j ob2.tid (W.hd j) ++ (h1 ++ [] ++ h3) ++ r)) := by
      simp only [List.append_assoc, List.nil_append]
      refine List.Perm.trans ?_ (List.perm_append_comm_assoc _ _ _)
      refine List.Perm.append_left _ ?_
      exact List.perm_append_comm_assoc _ _ _
    exact this

/-- the slice of a place is seen from now on -/
theorem open_ok {j : Nat} {p : List Dir} {o : Nat} {y : Dn} {S' : St} (h : S.open_ j p o = some (y, S')) (hs : SRel S W e eh oh) (hb : Hb C w (eh ++ oh) (Inv G W.φ)) :
    ∃ t l, y = ⟨.sl t, l⟩ ∧ ∃ v φ' oh', (W.hd j)[o]? = some v ∧ W.φ.le φ' ∧ Rp φ' (.sl t) l [v] [] ∧ SRel S' ⟨φ', W.adr, W.hd⟩ e eh oh' ∧ Hb C w (eh ++ oh') (Inv G φ') := by
  unfold St.open_ at h
  split at h <;> first | cases h | skip
  rename_i el t l S1 hta
  obtain ⟨v, h0, oh1, b1, b2, b3, b4, _⟩ := takeA_ok hta hs
  obtain ⟨A, cc, css, m1, m2, m3, m4, m5⟩ := b2
  have hv : v = .slice A (List.length l) cc := by injection m1
  subst hv
  have hrow : Sub (eh ++ oh) (h0 ++ (eh ++ oh1)) := (Sub.app (Sub.refl eh) b4).trans (Sub.perm (List.perm_append_comm_assoc _ _ _))
  rw [m5] at hrow
  obtain ⟨φ', f1, f2, f3⟩ := freeze_row (hrow.hb hb)
  have hsl : Rp φ' (.sl t) l [.slice A (List.length l) cc] [] := ⟨A, cc, css, rfl, m2, m3.imp fun _ _ hx => hx.mono f1, f2, rfl⟩
  have b5 := b3.mono f1
  split at h
  · split at h
    case _ S2 hset =>
      simp only [Option.some.injEq, Prod.mk.injEq] at h
      obtain ⟨rfl, rfl⟩ := h
      obtain ⟨ob, pre, mid, post, h1, h2, h3, r, s, g1, g2, g3, g4, g5, g6, g7, g8⟩ := setO_ok hset b5
      have hm1 : mid.length = 1 := by
        rw [g6.len, ← Ty.er_size s.1, ← g3]; rfl
      have hmid : mid = [.slice A (List.length l) cc] := by
        have h9 : W.hd j = pre ++ mid ++ post := g4
        match mid, hm1, h9 with
        | [u], _, h9 =>
          rw [h9, ← g5] at b1
          simp at b1
          rw [b1]
      subst hmid
      have h9 : W.hd j = pre ++ [.slice A (List.length l) cc] ++ post := g4
      have hs9 : s.1 = .dead el t ∨ True := .inr trivial
      obtain ⟨oh', k1, k2⟩ := g8 φ' [.slice A (List.length l) cc] [] φ'.le_refl hsl
      have e1 : upd W.hd j (pre ++ [.slice A (List.length l) cc] ++ post) = W.hd := by rw [← h9]; exact upd_same _ _
      rw [e1] at k1
      refine ⟨t, l, rfl, _, φ', oh', b1, f1, hsl, k1, ?_⟩
      have e2 : pre ++ [.slice A (List.length l) cc] ++ post = W.hd j := h9.symm
      rw [e2] at k2
      refine (Sub.app (Sub.refl eh) ((Sub.perm g7).trans ((?_ : Sub _ (obBlk _ j ob.tid (W.hd j) ++ (h1 ++ [] ++ h3) ++ r)).trans (Sub.perm k2.symm)))).hb f3
      refine Sub.app (Sub.app (Sub.refl _) (Sub.app (Sub.app (Sub.refl _) (Sub.nil _)) (Sub.refl _))) (Sub.refl _)
    case _ => cases h
  · simp only [Option.some.injEq, Prod.mk.injEq] at h
    obtain ⟨rfl, rfl⟩ := h
    exact ⟨t, l, rfl, _, φ', oh1, b1, f1, hsl, b5, f3⟩
end
end Go.Lf
