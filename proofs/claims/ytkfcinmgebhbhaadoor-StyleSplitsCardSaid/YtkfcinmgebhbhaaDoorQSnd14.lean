/-
  Calls.
-/
import Derived.Test.YtkfcinmgebhbhaaDoorQSnd13
namespace Go.Lf
open Go Go.Eng

section
variable {P : Program} {N : Nat} {C : Cx} {G : World → Prop} {c : Ctx} {S : St} {Rt : Type} {k : St → Option Rt} {r : Rt} {a : Act} {w : World}
variable {W : Wit} {e : Env} {eh oh : List Chunk} {dst : Option Tmp} {ty : TypeId} {pos : String} {af : Array Edge} {gd : Option (Nat × Bool)}

/-! objects as a family -/
theorem flatMap_upd {f : Nat → List Chunk} {j : Nat} {h : List Chunk} : ∀ {l : List Nat}, j ∉ l → l.flatMap f = l.flatMap (upd f j h)
  | [], _ => rfl
  | i :: r, hn => by
    simp only [List.mem_cons, not_or] at hn
    rw [List.flatMap_cons, List.flatMap_cons, flatMap_upd (l := r) hn.2, show upd f j h i = f i by unfold upd; rw [if_neg fun e => hn.1 e.symm]]
theorem ObR.fam {l : List (Nat × Ob)} {hs : List Chunk} (h : ObR W l hs) (nd : (l.map (·.1)).Nodup) : ∃ f : Nat → List Chunk, (∀ p ∈ l, ObOk W p.1 p.2 (f p.1)) ∧ hs = (l.map (·.1)).flatMap f := by
  induction h with
  | nil => exact ⟨fun _ => [], fun p hp => (by cases hp), rfl⟩
  | @cons j ob h hs l h1 h2 ih =>
    simp only [List.map_cons, List.nodup_cons] at nd
    obtain ⟨f, q1, q2⟩ := ih nd.2
    refine ⟨upd f j h, fun p hp => ?_, ?_⟩
    · rcases List.mem_cons.1 hp with rfl | hp
      · rw [upd_self]; exact h1
      · have : p.1 ≠ j := fun e => nd.1 (e ▸ List.mem_map.2 ⟨p, hp, rfl⟩)
        unfold upd
        rw [if_neg this]
        exact q1 p hp
    · simp only [List.map_cons, List.flatMap_cons, upd_self]
      rw [q2]
      congr 1
      exact flatMap_upd nd.1
theorem ObR.of_fam {f : Nat → List Chunk} : ∀ {l : List (Nat × Ob)}, (∀ p ∈ l, ObOk W p.1 p.2 (f p.1)) → ObR W l ((l.map (·.1)).flatMap f)
  | [], _ => .nil
  | p :: r, h => by
    simp only [List.map_cons, List.flatMap_cons]
    exact .cons (h p List.mem_cons_self) (ObR.of_fam fun q hq => h q (List.mem_cons_of_mem _ hq))
theorem keys_split {K js : List Nat} (hK : K.Nodup) (hj : js.Nodup) (hs : ∀ j ∈ js, j ∈ K) : K.Perm (js ++ K.filter (fun i => decide (i ∉ js))) := by
  refine (List.perm_ext_iff_of_nodup hK ?_).2 fun i => ?_
  · refine List.nodup_append.2 ⟨hj, hK.filter _, fun i hi j hj' e => ?_⟩
    have := (List.mem_filter.1 hj').2
    simp only [decide_eq_true_eq] at this
    exact this (e ▸ hi)
  · simp only [List.mem_append, List.mem_filter, decide_eq_true_eq]
    constructor
    · intro h
      by_cases h2 : i ∈ js
      · exact .inl h2
      · exact .inr ⟨h, h2⟩
    · rintro (h | h)
      · exact hs i h
      · exact h.1

theorem filter_split {K js : List Nat} {j : Nat} (hK : K.Nodup) (hj : j ∈ K) (hn : j ∉ js) : (K.filter fun i => decide (i ∉ js)).Perm (j :: K.filter fun i => decide (i ∉ j :: js)) := by
  refine (List.perm_ext_iff_of_nodup (hK.filter _) ?_).2 fun i => ?_
  · refine List.nodup_cons.2 ⟨fun h => ?_, hK.filter _⟩
    have := (List.mem_filter.1 h).2
    simp at this
  · simp only [List.mem_cons, List.mem_filter, decide_eq_true_eq, not_or]
    constructor
    · rintro ⟨h1, h2⟩
      by_cases h3 : i = j
      · exact .inl h3
      · exact .inr ⟨h1, h3, h2⟩
    · rintro (rfl | ⟨h1, _, h3⟩)
      · exact ⟨hj, hn⟩
      · exact ⟨h1, h3⟩
theorem nodup_pair {α : Type} {l : List (Nat × α)} (h : (l.map (·.1)).Nodup) {k : Nat} {v v' : α} (h1 : (k, v) ∈ l) (h2 : (k, v') ∈ l) : (k, v) = (k, v') := by
  induction l with
  | nil => cases h1
  | cons p r ih =>
    simp only [List.map_cons, List.nodup_cons] at h
    rcases List.mem_cons.1 h1 with e1 | h1 <;> rcases List.mem_cons.1 h2 with e2 | h2
    · rw [e1, e2]
    · exact absurd (List.mem_map.2 ⟨_, h2, by rw [← e1]⟩) h.1
    · exact absurd (List.mem_map.2 ⟨_, h1, by rw [← e2]⟩) h.1
    · exact ih h.2 h1 h2
theorem look_putl {α : Type} (l : List (Nat × α)) (k : Nat) (v : α) : look (putl l k v) k = some v := by
  induction l with
  | nil => rw [putl, look_cons, if_pos rfl]
  | cons p r ih =>
    rw [show p = (p.1, p.2) from rfl, putl_cons]
    split
    · rw [look_cons, if_pos rfl]
    · rename_i h; rw [look_cons, if_neg h]; exact ih
theorem headP_cons {a : Ty} : ∀ {r : List Ty} (x : a.den) (y : prodT r), headP r (consP r x y) = x
  | [], _, _ => rfl
  | _ :: _, _, _ => rfl
theorem tailP_cons {a : Ty} : ∀ {r : List Ty} (x : a.den) (y : prodT r), tailP r (consP r x y) = y
  | [], _, _ => rfl
  | _ :: _, _, _ => rfl
theorem ArgsR.val' {φ : Phi} {t : Ty} {r : List Par} {y : t.den} {z : prodT (r.map Par.ty)} {cs : List Value} {h hs : List Chunk} {vs : List Value} {gs : List (Nat × Nat)} (ht : t.top = true) (h1 : Rp φ t y cs h) (h2 : ArgsR φ r z vs gs hs) : ArgsR φ (.val t :: r) (consP (a := t) (r.map Par.ty) y z) (sv t cs :: vs) gs (h ++ hs) := by
  cases r with
  | nil => cases h2; exact ArgsR.val (r := []) ht h1 .nil
  | cons p q => exact ArgsR.val (r := p :: q) (z := (y, z)) ht h1 h2
theorem ArgsR.obj' {φ : Phi} {tid : Nat} {t t' : Ty} {p0 : List Dir} {r : List Par} {y : t.den} {z : prodT (r.map Par.ty)} {cs : List Value} {h hs : List Chunk} {vs : List Value} {g : Nat} {gs : List (Nat × Nat)} (h1 : Rp φ t y cs h) (h2 : ArgsR φ r z vs gs hs) :
    ArgsR φ (.obj tid t t' p0 :: r) (consP (a := t) (r.map Par.ty) y z) (.pointer (some ⟨g, offP t p0, none⟩) :: vs) ((g, tid) :: gs) (blk g tid cs :: h ++ hs) := by
  cases r with
  | nil => cases h2; exact ArgsR.obj (r := []) h1 .nil
  | cons p q => exact ArgsR.obj (r := p :: q) (z := (y, z)) h1 h2
theorem ArgsR.cfn' {φ : Phi} {g : Nat} {r : List Par} {z : prodT (r.map Par.ty)} {hs : List Chunk} {vs : List Value} {gs : List (Nat × Nat)} (h2 : ArgsR φ r z vs gs hs) : ArgsR φ (.cfn g :: r) (consP (a := .unit) (r.map Par.ty) () z) (.func (.func g) #[] #[] :: vs) gs hs := by
  cases r with
  | nil => cases h2; exact ArgsR.cfn (r := []) .nil
  | cons p q => exact ArgsR.cfn (r := p :: q) (z := ((), z)) h2
inductive DsR (W : Wit) : List D → List Value → List Chunk → Prop
  | nil : DsR W [] [] []
  | cons {d : D} {v : Value} {h hs : List Chunk} {ds : List D} {vs : List Value} : DR W d v h → DsR W ds vs hs → DsR W (d :: ds) (v :: vs) (h ++ hs)
theorem DR.same {W' : Wit} {d : D} {v : Value} {h : List Chunk} (hd : DR W d v h) (hle : W.φ.le W'.φ) (hadr : W'.adr = W.adr) (hhd : W'.hd = W.hd) : DR W' d v h := hd.move hle hadr (fun _ _ _ _ => by rw [hhd]) (fun _ _ _ _ _ _ _ _ => by rw [hhd])


/-- 'open_ok', beside other chunks -/
theorem openx_ok {j : Nat} {p : List Dir} {o : Nat} {y : Dn} {S' : St} (h : S.open_ j p o = some (y, S')) (hs : SRel S W e eh oh) {hv : List Chunk} (hb : Hb C w (hv ++ (eh ++ oh)) (Inv G W.φ)) :
    ∃ t l, y = ⟨.sl t, l⟩ ∧ ∃ v φ' oh', (W.hd j)[o]? = some v ∧ W.φ.le φ' ∧ Rp φ' (.sl t) l [v] [] ∧ SRel S' ⟨φ', W.adr, W.hd⟩ e eh oh' ∧ Hb C w (hv ++ (eh ++ oh')) (Inv G φ') := by
  unfold St.open_ at h
  split at h <;> first | cases h | skip
  rename_i el t l S1 hta
  obtain ⟨v, h0, oh1, b1, b2, b3, b4, _⟩ := takeA_ok hta hs
  obtain ⟨A, cc, css, m1, m2, m3, m4, m5⟩ := b2
  have hv' : v = .slice A (List.length l) cc := by injection m1
  subst hv'
  have hrow : Sub (hv ++ (eh ++ oh)) (h0 ++ (hv ++ (eh ++ oh1))) := (Sub.app (Sub.refl hv) ((Sub.app (Sub.refl eh) b4).trans (Sub.perm (List.perm_append_comm_assoc _ _ _)))).trans (Sub.perm (List.perm_append_comm_assoc _ _ _))
  rw [m5] at hrow
  obtain ⟨φ', f1, f2, f3⟩ := freeze_row (hrow.hb hb)
  have hsl : Rp φ' (.sl t) l [.slice A (List.length l) cc] [] := ⟨A, cc, css, rfl, m2, m3.imp fun _ _ hx => hx.mono f1, f2, rfl⟩
  have b5 := b3.mono f1
  split at h
  · split at h
    case _ S2 hset =>
      simp only [Option.some.injEq, Prod.mk.injEq] at h
      obtain ⟨rfl, rfl⟩ := h
      obtain ⟨ob, pre, mid, post, h1, h2, h3, r, s, g1, g2, g3, g4, g5, g6, g7, g8⟩ := setO_ok hset b5
      have hm1 : mid.length = 1 := by
        rw [g6.len, ← Ty.er_size s.1, ← g3]; rfl
      have hmid : mid = [.slice A (List.length l) cc] := by
        have h9 : W.hd j = pre ++ mid ++ post := g4
        match mid, hm1, h9 with
        | [u], _, h9 =>
          rw [h9, ← g5] at b1
          simp at b1
          rw [b1]
      subst hmid
      have h9 : W.hd j = pre ++ [.slice A (List.length l) cc] ++ post := g4
      obtain ⟨oh', k1, k2⟩ := g8 φ' [.slice A (List.length l) cc] [] φ'.le_refl hsl
      have e1 : upd W.hd j (pre ++ [.slice A (List.length l) cc] ++ post) = W.hd := by rw [← h9]; exact upd_same _ _
      rw [e1] at k1
      refine ⟨t, l, rfl, _, φ', oh', b1, f1, hsl, k1, ?_⟩
      have e2 : pre ++ [.slice A (List.length l) cc] ++ post = W.hd j := h9.symm
      rw [e2] at k2
      refine (Sub.app (Sub.refl hv) (Sub.app (Sub.refl eh) ((Sub.perm g7).trans ((?_ : Sub _ (obBlk _ j ob.tid (W.hd j) ++ (h1 ++ [] ++ h3) ++ r)).trans (Sub.perm k2.symm))))).hb f3
      refine Sub.app (Sub.app (Sub.refl _) (Sub.app (Sub.app (Sub.refl _) (Sub.nil _)) (Sub.refl _))) (Sub.refl _)
    case _ => cases h
  · simp only [Option.some.injEq, Prod.mk.injEq] at h
    obtain ⟨rfl, rfl⟩ := h
    exact ⟨t, l, rfl, _, φ', oh1, b1, f1, hsl, b5, f3⟩

theorem use_ok {take : Bool} {x : Operand} {d : D} {S1 : St} (h : S.use take x = some (d, S1)) (hs : SRel S W e eh oh) {hv : List Chunk} (hb : Hb C w (hv ++ (eh ++ oh)) (Inv G W.φ)) :
    ∃ v φ' hh eh' oh', EV e x v ∧ W.φ.le φ' ∧ DR ⟨φ', W.adr, W.hd⟩ d v hh ∧ SRel S1 ⟨φ', W.adr, W.hd⟩ e eh' oh' ∧ Hb C w (hv ++ hh ++ (eh' ++ oh')) (Inv G φ') := by
  unfold St.use at h
  split at h
  · rename_i j p o hx
    split at h
    case h_2 => cases h
    case h_1 y S2 hop =>
    simp only [Option.some.injEq, Prod.mk.injEq] at h
    obtain ⟨rfl, rfl⟩ := h
    obtain ⟨v, _, _, q1, ⟨q2, _⟩, _, _⟩ := strip_ok hs (x := x) hx (by intro e; cases e)
    obtain ⟨t, l, rfl, v', φ', oh', g1, g2, g3, g4, g5⟩ := openx_ok hop hs hb
    rw [q2] at g1
    injection g1 with g1
    subst g1
    exact ⟨v, φ', [], eh, oh', q1, g2, ⟨[v], rfl, rfl, g3⟩, g4, by simpa using g5⟩
  · cases h
  · rename_i hn1 hn2
    cases take with
    | true =>
      simp only [cond_true, Option.some.injEq, Prod.mk.injEq] at h
      obtain ⟨rfl, rfl⟩ := h
      obtain ⟨v, hh, eh', q1, q2, q3, q4⟩ := strip_ok hs (x := x) rfl (fun e => hn2 e)
      refine ⟨v, W.φ, hh, eh', oh, q1, W.φ.le_refl, q2, q3, ?_⟩
      refine (Sub.trans (Sub.app (Sub.refl hv) (Sub.app q4 (Sub.refl oh))) (by rw [List.append_assoc, List.append_assoc]; exact Sub.refl _)).hb hb
    | false =>
      simp only [cond_false] at h
      split at h
      case h_1 => cases h
      case h_2 hne =>
      simp only [Option.some.injEq, Prod.mk.injEq] at h
      obtain ⟨rfl, rfl⟩ := h
      obtain ⟨v, q1, q2⟩ := get_nil hs.env (x := x) rfl hne
      exact ⟨v, W.φ, [], eh, oh, q1, W.φ.le_refl, q2, hs, by simpa using hb⟩

theorem usesE_ok : ∀ (ps : List Par) (xs : List Operand) (S : St) (ds : List D) (S1 : St) (W : Wit) (eh oh hv : List Chunk), usesE S ps xs = some (ds, S1) → SRel S W e eh oh → Hb C w (hv ++ (eh ++ oh)) (Inv G W.φ) →
    ∃ vs φ' hh eh' oh', EVA e xs vs ∧ W.φ.le φ' ∧ DsR ⟨φ', W.adr, W.hd⟩ ds vs hh ∧ SRel S1 ⟨φ', W.adr, W.hd⟩ e eh' oh' ∧ Hb C w (hv ++ hh ++ (eh' ++ oh')) (Inv G φ')
  | [], [], S, ds, S1, W, eh, oh, hv, h, hs, hb => by
    simp only [usesE, Option.some.injEq, Prod.mk.injEq] at h
    obtain ⟨rfl, rfl⟩ := h
    exact ⟨[], W.φ, [], eh, oh, .nil, W.φ.le_refl, .nil, hs, by simpa using hb⟩
  | [], _ :: _, S, ds, S1, W, eh, oh, hv, h, hs, hb => by cases h
  | .val _ :: _, [], S, ds, S1, W, eh, oh, hv, h, hs, hb => by cases h
  | .obj _ _ _ _ :: _, [], S, ds, S1, W, eh, oh, hv, h, hs, hb => by cases h
  | .cfn _ :: _, [], S, ds, S1, W, eh, oh, hv, h, hs, hb => by cases h
  | .val t :: ps, x :: xs, S, ds, S1, W, eh, oh, hv, h, hs, hb => by
    unfold usesE at h
    split at h
    case h_2 => cases h
    case h_1 d S2 hu =>
    split at h
    case h_2 => cases h
    case h_1 ds' S3 hr =>
    simp only [Option.some.injEq, Prod.mk.injEq] at h
    obtain ⟨rfl, rfl⟩ := h
    obtain ⟨v, φ1, h1, eh1, oh1, q1, q2, q3, q4, q5⟩ := use_ok hu hs hb
    obtain ⟨vs, φ2, h2, eh2, oh2, g1, g2, g3, g4, g5⟩ := usesE_ok ps xs _ _ _ _ _ _ _ hr q4 q5
    exact ⟨v :: vs, φ2, h1 ++ h2, eh2, oh2, .cons q1 g1, Phi.le_trans q2 g2, .cons (q3.same g2 rfl rfl) g3, g4, by simpa [List.append_assoc] using g5⟩
  | .cfn _ :: ps, x :: xs, S, ds, S1, W, eh, oh, hv, h, hs, hb => by
    unfold usesE at h
    split at h
    case h_2 => cases h
    case h_1 g hx =>
    split at h
    case h_2 => cases h
    case h_1 ds' S3 hr =>
    simp only [Option.some.injEq, Prod.mk.injEq] at h
    obtain ⟨rfl, rfl⟩ := h
    obtain ⟨v, _, _, q1, q2, _, _⟩ := strip_ok hs (x := x) hx (by intro e; cases e)
    obtain ⟨vs, φ2, h2, eh2, oh2, g1, g2, g3, g4, g5⟩ := usesE_ok ps xs _ _ _ _ _ _ hv hr hs hb
    exact ⟨v :: vs, φ2, [] ++ h2, eh2, oh2, .cons q1 g1, g2, .cons ⟨q2.1, rfl⟩ g3, g4, by simpa using g5⟩
  | .obj _ _ _ _ :: ps, x :: xs, S, ds, S1, W, eh, oh, hv, h, hs, hb => by
    unfold usesE at h
    split at h
    case h_2 => cases h
    case h_1 j p o hx =>
    split at h
    case h_2 => cases h
    case h_1 ds' S3 hr =>
    simp only [Option.some.injEq, Prod.mk.injEq] at h
    obtain ⟨rfl, rfl⟩ := h
    obtain ⟨v, _, _, q1, q2, _, _⟩ := strip_ok hs (x := x) hx (by intro e; cases e)
    obtain ⟨vs, φ2, h2, eh2, oh2, g1, g2, g3, g4, g5⟩ := usesE_ok ps xs _ _ _ _ _ _ hv hr hs hb
    exact ⟨v :: vs, φ2, [] ++ h2, eh2, oh2, .cons q1 g1, g2, .cons ⟨q2.1, rfl⟩ g3, g4, by simpa using g5⟩

/-- a value of a type, with its rights -/
theorem asTy_ok {t : Ty} {d : D} {y : t.den} {v : Value} {h : List Chunk} (ha : asTy t d = some y) (hd : DR W d v h) : ∃ cs h', v = sv t cs ∧ Rp W.φ t y cs h' ∧ Sub h h' := by
  unfold asTy at ha
  split at ha
  · obtain ⟨cs, h1, h2, h3⟩ := hd
    obtain ⟨h', h4, h5⟩ := coe_ok ha h3
    exact ⟨cs, h', by rw [h2]; exact coe_sv ha cs, h4, h5⟩
  · obtain ⟨h1, h2⟩ := hd
    subst h1 h2
    split at ha
    · simp only [Option.some.injEq] at ha; subst ha
      exact ⟨[.slice none 0 0], [], rfl, ⟨none, 0, [], rfl, Nat.le_refl _, .nil, fun h => absurd h (by simp), rfl⟩, Sub.refl _⟩
    · rename_i el a
      simp only [Option.some.injEq] at ha; subst ha
      exact ⟨[.slice none 0 0], _, rfl, ⟨none, 0, [], rfl, Nat.le_refl _, .nil, fun h => absurd h (by simp), rfl⟩, Sub.nilrow _ _ _⟩
    · rename_i el a
      simp only [Option.some.injEq] at ha; subst ha
      exact ⟨[.slice none 0 0], _, rfl, ⟨none, 0, [], rfl, Nat.le_refl _, .nil, fun h => absurd h (by simp), rfl⟩, Sub.nilrow _ _ _⟩
    · cases ha
  · obtain ⟨h1, h2⟩ := hd
    subst h1 h2
    split at ha
    · simp only [Option.some.injEq] at ha; subst ha
      exact ⟨[.nilIface], [], rfl, ⟨rfl, rfl⟩, Sub.refl _⟩
    · cases ha
  · cases ha

theorem look_pair {α : Type} {l : List (Nat × α)} {k : Nat} {v : α} (h : look l k = some v) : (k, v) ∈ l := by
  induction l with
  | nil => cases h
  | cons p r ih =>
    rw [show p = (p.1, p.2) from rfl, look_cons] at h
    split at h
    · rename_i he
      simp only [Option.some.injEq] at h
      subst he h
      exact List.mem_cons_self
    · exact List.mem_cons_of_mem _ (ih h)
theorem mem_not {n : Nat} : ∀ {l : List Nat}, mem n l = false → n ∉ l
  | [], _ => by simp
  | k :: r, h => by
    unfold mem at h
    cases hb : Nat.beq k n with
    | true => rw [hb] at h; cases h
    | false =>
      rw [hb] at h
      simp only [List.mem_cons, not_or]
      exact ⟨fun e => (by rw [e, Nat.beq_refl] at hb; cases hb), mem_not h⟩

/-- what is handed over -/
theorem packE_ok {f : Nat → List Chunk} (hf : ∀ p ∈ S.objs, ObOk W p.1 p.2 (f p.1)) : ∀ (ps : List Par) (ds : List D) (z : prodT (ps.map Par.ty)) (js : List (Nat × Nat)) (vs : List Value) (hh : List Chunk), packE S ps ds = some (z, js) → DsR W ds vs hh → (∀ t, Par.val t ∈ ps → t.top = true) →
    ∃ ah, ArgsR W.φ ps z vs (js.map fun p => (W.adr p.1, p.2)) ah ∧ (js.map (·.1)).Nodup ∧ (∀ j ∈ js.map (·.1), j ∈ S.objs.map (·.1)) ∧ Sub (hh ++ (js.map (·.1)).flatMap f) ah
  | [], [], z, js, vs, hh, h, hd, ht => by
    simp only [packE, Option.some.injEq, Prod.mk.injEq] at h
    obtain ⟨rfl, rfl⟩ := h
    cases hd
    exact ⟨[], .nil, by simp, by simp, Sub.refl _⟩
  | [], _ :: _, z, js, vs, hh, h, hd, ht => by cases h
  | .val _ :: _, [], z, js, vs, hh, h, hd, ht => by cases h
  | .obj _ _ _ _ :: _, [], z, js, vs, hh, h, hd, ht => by cases h
  | .cfn _ :: _, [], z, js, vs, hh, h, hd, ht => by cases h
  | .val t :: ps, d :: ds, z, js, vs, hh, h, hd, ht => by
    unfold packE at h
    split at h
    case h_2 => cases h
    case h_1 y z' js' hy hr =>
    simp only [Option.some.injEq, Prod.mk.injEq] at h
    obtain ⟨rfl, rfl⟩ := h
    cases hd with
    | @cons d v h1 h2 ds vs hd1 hd2 =>
    obtain ⟨cs, h1', q1, q2, q3⟩ := asTy_ok hy hd1
    obtain ⟨ah, g1, g2, g3, g4⟩ := packE_ok hf ps ds z' js' vs h2 hr hd2 fun t' ht' => ht t' (List.mem_cons_of_mem _ ht')
    subst q1
    refine ⟨h1' ++ ah, ArgsR.val' (ht t List.mem_cons_self) q2 g1, g2, g3, ?_⟩
    rw [List.append_assoc]
    exact Sub.app q3 g4
  | .cfn g :: ps, d :: ds, z, js, vs, hh, h, hd, ht => by
    unfold packE at h
    split at h
    case h_2 => cases h
    case h_1 g' z' js' hr =>
    cases hb : Nat.beq g g' with
    | false => rw [hb] at h; cases h
    | true =>
    rw [hb] at h
    have hb := Nat.eq_of_beq_eq_true hb
    subst hb
    simp only [cond_true, Option.some.injEq, Prod.mk.injEq] at h
    obtain ⟨rfl, rfl⟩ := h
    cases hd with
    | @cons d v h1 h2 ds vs hd1 hd2 =>
    obtain ⟨rfl, rfl⟩ := hd1
    obtain ⟨ah, g1, g2, g3, g4⟩ := packE_ok hf ps ds _ _ vs h2 hr hd2 fun t' ht' => ht t' (List.mem_cons_of_mem _ ht')
    exact ⟨ah, ArgsR.cfn' g1, g2, g3, by simpa using g4⟩
  | .obj tid t t' p0 :: ps, d :: ds, z, js, vs, hh, h, hd, ht => by
    unfold packE at h
    split at h
    case h_2 => cases h
    case h_1 j _ o z' js' hr =>
    split at h
    case h_2 => cases h
    case h_1 ob hob =>
    split at h
    case isFalse => cases h
    case isTrue htid =>
    split at h
    case h_2 => cases h
    case h_1 y hy =>
    cases hm : mem j (js'.map (·.1)) with
    | true => rw [hm] at h; cases h
    | false =>
    rw [hm] at h
    cases ho : Nat.beq o (offP t p0) with
    | false => rw [ho] at h; cases h
    | true =>
    rw [ho] at h
    have ho := Nat.eq_of_beq_eq_true ho
    subst ho
    simp only [cond_false, cond_true, Option.some.injEq, Prod.mk.injEq] at h
    obtain ⟨rfl, rfl⟩ := h
    cases hd with
    | @cons d v h1 h2 ds vs hd1 hd2 =>
    obtain ⟨rfl, rfl⟩ := hd1
    obtain ⟨ah, g1, g2, g3, g4⟩ := packE_ok hf ps ds z' js' vs h2 hr hd2 fun t' ht' => ht t' (List.mem_cons_of_mem _ ht')
    obtain ⟨h0, q1, q2⟩ := hf _ (look_pair hob)
    rw [htid] at q2
    obtain ⟨h0', q3, q4⟩ := coe_ok hy q1
    have q2 : f j = blk (W.adr j) tid (W.hd j) :: h0 := q2
    refine ⟨blk (W.adr j) tid (W.hd j) :: h0' ++ ah, ArgsR.obj' q3 g1, ?_, ?_, ?_⟩
    · simp only [List.map_cons, List.nodup_cons]
      exact ⟨mem_not hm, g2⟩
    · intro i hi
      rcases List.mem_cons.1 hi with rfl | hi
      · exact look_mem hob
      · exact g3 i hi
    · simp only [List.map_cons, List.flatMap_cons, List.nil_append]
      rw [q2]
      refine (Sub.perm (List.perm_append_comm_assoc h2 (blk (W.adr j) tid (W.hd j) :: h0) _)).trans ?_
      exact Sub.app (Sub.cons q4) g4

theorem EnvR.killA {φ' : Phi} {l : List (Nat × D)} {hs : List Chunk} (h : EnvR W l e hs) (hle : W.φ.le φ') {j : Nat} {cs : List Value} : EnvR ⟨φ', W.adr, upd W.hd j cs⟩ (Lf.killA j l) e hs := by
  have key : ∀ (i o' : Nat), Nat.beq j i = false → ((upd W.hd j cs) i)[o']? = (W.hd i)[o']? := fun i o' hn => by
    have : i ≠ j := fun e => by rw [e, Nat.beq_refl] at hn; cases hn
    unfold upd
    rw [if_neg this]
  induction h with
  | nil => exact .nil
  | @cons k d v h hs l e h1 h2 ih =>
    cases d with
    | aref i p o' =>
      unfold Lf.killA
      cases hb : Nat.beq j i with
      | true => exact .cons (show DR _ .und v h from h1.2) ih
      | false => exact .cons (h1.move hle rfl (fun _ _ _ he => by cases he; exact key _ _ hb) (fun _ _ _ _ _ _ _ he => by cases he)) ih
    | ael i p o' m z q qo =>
      unfold Lf.killA
      cases hb : Nat.beq j i with
      | true =>
        obtain ⟨A, m, cc, _, _, h3⟩ := h1
        exact .cons (show DR _ .und v h from h3) ih
      | false => exact .cons (h1.move hle rfl (fun _ _ _ he => by cases he) (fun _ _ _ _ _ _ _ he => by cases he; exact key _ _ hb)) ih
    | _ => exact .cons (h1.move hle rfl (fun _ _ _ he => by cases he) (fun _ _ _ _ _ _ _ he => by cases he)) ih

theorem putl_pair {α : Type} {l : List (Nat × α)} {k : Nat} {v : α} : ∀ p ∈ putl l k v, p = (k, v) ∨ p ∈ l := by
  induction l with
  | nil => intro p hp; exact .inl (by simpa [putl] using hp)
  | cons q r ih =>
    intro p hp
    rw [show q = (q.1, q.2) from rfl, putl_cons] at hp
    split at hp
    · rcases List.mem_cons.1 hp with rfl | hp
      · exact .inl rfl
      · exact .inr (List.mem_cons_of_mem _ hp)
    · rcases List.mem_cons.1 hp with rfl | hp
      · exact .inr List.mem_cons_self
      · exact (ih p hp).imp id (List.mem_cons_of_mem _)

/-- what the call left in the objects -/
theorem backE_ok : ∀ (js : List (Nat × Nat)) (L : List Dn) (S S2 : St) (W : Wit) (eh : List Chunk) (f : Nat → List Chunk) (h2 : List Chunk), backE S js L = some S2 → EnvR W S.env e eh → (S.objs.map (·.1)).Nodup → (∀ j ∈ js.map (·.1), j ∈ S.objs.map (·.1)) → (js.map (·.1)).Nodup →
    (∀ p ∈ S.objs, p.1 ∉ js.map (·.1) → ObOk W p.1 p.2 (f p.1)) → ObsR W.φ (js.map fun p => (W.adr p.1, p.2)) L h2 →
    ∃ W' oh', W'.φ = W.φ ∧ SRel S2 W' e eh oh' ∧ Sub (h2 ++ ((S.objs.map (·.1)).filter fun i => decide (i ∉ js.map (·.1))).flatMap f) oh'
  | [], [], S, S2, W, eh, f, h2, h, he, nd, hin, hj, hf, ho => by
    simp only [backE, Option.some.injEq] at h
    subst h
    cases ho
    refine ⟨W, (S.objs.map (·.1)).flatMap f, rfl, ⟨he, ObR.of_fam fun p hp => hf p hp (by simp), nd⟩, ?_⟩
    rw [List.nil_append, List.filter_eq_self.2 (by intro a _; simp)]
    exact Sub.refl _
  | [], _ :: _, S, S2, W, eh, f, h2, h, he, nd, hin, hj, hf, ho => by cases h
  | _ :: _, [], S, S2, W, eh, f, h2, h, he, nd, hin, hj, hf, ho => by cases h
  | (j, tid) :: js, y :: ys, S, S2, W, eh, f, h2, h, he, nd, hin, hj, hf, ho => by
    unfold backE at h
    simp only [List.map_cons, List.nodup_cons] at hj
    cases ho with
    | @cons g _ t x cs h0 hs gs L r1 r2 =>
    have hkeys : (putl S.objs j ⟨some tid, t, x⟩).map (·.1) = S.objs.map (·.1) := putl_keys' _ _ _ (hin j (by simp))
    have hadr : (js.map fun p => ((⟨W.φ, W.adr, upd W.hd j cs⟩ : Wit).adr p.1, p.2)) = js.map fun p => (W.adr p.1, p.2) := rfl
    obtain ⟨W', oh', q1, q2, q3⟩ := backE_ok js ys ⟨Lf.killA j S.env, putl S.objs j ⟨some tid, t, x⟩⟩ S2 ⟨W.φ, W.adr, upd W.hd j cs⟩ eh (upd f j (blk (W.adr j) tid cs :: h0)) hs h (he.killA W.φ.le_refl) (by rw [hkeys]; exact nd) (by
      intro i hi
      show i ∈ (putl S.objs j ⟨some tid, t, x⟩).map (·.1)
      rw [hkeys]; exact hin i (by simp only [List.map_cons]; exact List.mem_cons_of_mem _ hi)) hj.2 (by
      intro p hp hn
      by_cases hpj : p.1 = j
      · have hpe : p = (j, ⟨some tid, t, x⟩) := by
          have hnd : ((putl S.objs j ⟨some tid, t, x⟩).map (·.1)).Nodup := by rw [hkeys]; exact nd
          have h1 : look (putl S.objs j ⟨some tid, t, x⟩) j = some ⟨some tid, t, x⟩ := look_putl _ _ _
          obtain ⟨i, ob⟩ := p
          have hpj : i = j := hpj
          subst hpj
          exact nodup_pair hnd hp (look_pair h1)
        subst hpe
        refine ⟨h0, ?_, ?_⟩
        · show Rp W.φ t x (upd W.hd j cs j) h0
          rw [upd_self]; exact r1
        · show upd f j (blk (W.adr j) tid cs :: h0) j = blk (W.adr j) tid (upd W.hd j cs j) :: h0
          rw [upd_self, upd_self]
      · rcases putl_pair p hp with rfl | hp
        · exact absurd rfl hpj
        · obtain ⟨h00, p1, p2⟩ := hf p hp (by simp only [List.map_cons, List.mem_cons, not_or]; exact ⟨hpj, hn⟩)
          have e1 : upd W.hd j cs p.1 = W.hd p.1 := by unfold upd; rw [if_neg hpj]
          have e2 : upd f j (blk (W.adr j) tid cs :: h0) p.1 = f p.1 := by unfold upd; rw [if_neg hpj]
          refine ⟨h00, ?_, ?_⟩
          · show Rp W.φ p.2.t p.2.x (upd W.hd j cs p.1) h00
            rw [e1]; exact p1
          · show upd f j (blk (W.adr j) tid cs :: h0) p.1 = match p.2.tid with | some tid => blk (W.adr p.1) tid (upd W.hd j cs p.1) :: h00 | none => h00
            rw [e1, e2]; exact p2) r2
    refine ⟨W', oh', q1, q2, Sub.trans ?_ q3⟩
    show Sub _ (hs ++ (((putl S.objs j ⟨some tid, t, x⟩).map (·.1)).filter fun i => decide (i ∉ js.map (·.1))).flatMap (upd f j (blk (W.adr j) tid cs :: h0)))
    rw [hkeys]
    have hp := filter_split nd (hin j (by simp)) hj.1
    have h5 := hp.flatMap_right (f := upd f j (blk (W.adr j) tid cs :: h0))
    refine Sub.trans (Sub.perm ?_) (Sub.app (Sub.refl hs) (Sub.perm h5.symm))
    rw [List.flatMap_cons, upd_self]
    rw [← flatMap_upd (by simp)]
    refine List.Perm.trans ?_ (List.perm_append_comm_assoc _ _ _)
    simp only [List.append_assoc, List.map_cons]
    exact List.Perm.refl _

theorem callT_ok (hc : CtxOk P G c) (hn : c.n = N) {cl : Call} {f : Nat} {en : Entry} {x : Operand} {o : Oper} (hop : o.op = .call cl) (hcl : cl.callee = .value x) (hx : S.get x = .fn f) (hf : look c.fn f = some en) {z : prodT (en.ps.map Par.ty)} {js : List (Nat × Nat)} {S1 S2 : St}
    (hz : argsE S en.ps cl.args.toList = some (z, js, S1)) {q : prodT (en.rs ++ outs en.ps)} (hq : en.f z = some q) (hbk : backE S1 js ((unProd (en.rs ++ outs en.ps) q).drop en.rs.length) = some S2)
    (h : out c o S2 (tupD ((unProd (en.rs ++ outs en.ps) q).take en.rs.length)) k = some r) : ∃ S', k S' = some r ∧ ∀ a w, At N C G S a w → OpWp P N C G o S' a w := by
  have he := hc.fn f en hf
  obtain ⟨S', h1, h2⟩ := out_ok (N := N) (C := C) (G := G) hn h
  refine ⟨S', h1, fun a w ⟨W, e, eh, oh, hs, hfr, hb⟩ => ?_⟩
  unfold argsE at hz
  split at hz
  case h_2 => cases hz
  case h_1 ds S1' hu =>
  split at hz
  case h_2 => cases hz
  case h_1 z' js' hpk =>
  simp only [Option.some.injEq, Prod.mk.injEq] at hz
  obtain ⟨rfl, rfl, rfl⟩ := hz
  obtain ⟨vs, φ1, hh, eh1, oh1, g1, g2, g3, g4, g5⟩ := usesE_ok _ _ _ _ _ _ _ _ [] hu hs (by simpa using hb)
  obtain ⟨fm, f1, f2⟩ := g4.obs.fam g4.nd
  obtain ⟨ah, p1, p2, p3, p4⟩ := packE_ok f1 _ _ _ _ _ _ hpk g3 he.top
  have hK := keys_split g4.nd p2 p3
  have hK2 := hK.flatMap_right (f := fm)
  rw [List.flatMap_append] at hK2
  have hsub : Sub ([] ++ hh ++ (eh1 ++ oh1)) (ah ++ (eh1 ++ (((S1'.objs.map (·.1)).filter fun i => decide (i ∉ js'.map (·.1))).flatMap fm))) := by
    rw [f2]
    refine Sub.trans (Sub.perm ?_) (Sub.app p4 (Sub.refl _))
    simp only [List.nil_append, List.append_assoc]
    refine List.Perm.append_left _ ?_
    refine List.Perm.trans (List.Perm.append_left _ hK2) ?_
    exact List.perm_append_comm_assoc _ _ _
  have hb2 := hsub.hb g5
  have h0 : (execOp a.eval o).run P w = .ok (.enter f vs.toArray) w := by
    have := run_call (P := P) (w := w) (d := o.dst) (ty := o.type) (pos := o.pos) (af := o.after) (gd := o.guard) (ats := cl.argTypes) he.go (a := a) (fo := x) (hfr.ev (get_fn hs.env hx)) (hfr.eva g1)
    rw [← this]
    congr 2
    cases o with
    | mk d op ty pos af gd =>
      simp only at hop
      subst hop
      cases cl with
      | mk callee args ats => simp only at hcl; subst hcl; simp
  unfold OpWp
  rw [h0]
  refine (he.ok _ q hq (C.sub w ah (eh1 ++ _)) φ1 vs _ ah p1 hb2.pass).mono fun y w' hy => ?_
  obtain ⟨v, φ', k1, k2, rfl, hle, hb3, hres, hobs⟩ := hy
  have hb4 := hb2.back hb3
  obtain ⟨W', oh', b1, b2, b3⟩ := backE_ok js' _ S1' S2 ⟨φ', W.adr, W.hd⟩ eh1 fm k2 hbk (g4.env.mono hle rfl rfl) g4.nd p3 p2 (fun p hp _ => by
    obtain ⟨h0, t1, t2⟩ := f1 p hp
    exact ⟨h0, t1.mono hle, t2⟩) hobs
  have hb5 : Hb C w' (k1 ++ (eh1 ++ oh')) (Inv G W'.φ) := by
    rw [b1]
    have : Sub ((k1 ++ k2) ++ (eh1 ++ (((S1'.objs.map (·.1)).filter fun i => decide (i ∉ js'.map (·.1))).flatMap fm))) (k1 ++ (eh1 ++ oh')) := by
      refine Sub.trans (Sub.perm ?_) (Sub.app (Sub.refl k1) (Sub.app (Sub.refl eh1) b3))
      simp only [List.append_assoc]
      exact List.Perm.append_left _ (List.perm_append_comm_assoc _ _ _)
    exact (this.hb hb4).imp fun _ h => h.2
  exact ⟨v, rfl, h2 W' e eh1 oh' v k1 a w' b2 (DR.res (by rw [b1]; exact hres)) hfr hb5⟩
end
end Go.Lf
