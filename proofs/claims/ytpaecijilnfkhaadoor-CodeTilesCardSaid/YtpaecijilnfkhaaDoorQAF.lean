/- Chapter 16, plainly: instructions of lines. -/
import Derived.Test.YtpaecijilnfkhaaDoorQAE
import Derived.KernelRfl
import Derived.Test.YtpaecijilnfkhaaDoorQAD
import Derived.Carry
import Derived.ChangeSame
import Derived.ChangeMaps5
import Derived.SizedLaws
import Derived.ChangeSlices
import Derived.SliceStrings
import Derived.ProofKit
import Derived.OpenShut
import Derived.Deep.DeepHandedRow
import Derived.Lib.LaidTab
namespace Go.Fn
open Go Go.Lf

/-! ### bytes are laid -/
theorem wrap8 (v : Nat) : IntKind.wrap .u8 (v : Int) = ((v % 256 : Nat) : Int) := by
  simp only [IntKind.wrap]
  simp [IntKind.bits, IntKind.signed]
theorem or_128 (m : Nat) (h : m < 256) : m ||| 128 = m % 128 + 128 := by
  by_cases h1 : m < 128
  · have := or_add (a := m) (b := 1) (k := 7) h1
    rw [show 1 * 2 ^ 7 = 128 from rfl] at this
    rw [this]; omega
  · have := or_add (a := m - 128) (b := 1) (k := 7) (by omega)
    rw [show 1 * 2 ^ 7 = 128 from rfl] at this
    have e : m = (m - 128) ||| 128 := by rw [this]; omega
    rw [show m ||| 128 = ((m - 128) ||| 128) ||| 128 by rw [← e], Nat.or_assoc, Nat.or_self, this]; omega
theorem bits_128 (v : Nat) : Go.Lf.bits .or .u8 (IntKind.wrap .u8 (v : Int)) 128 = ((v % 128 + 128 : Nat) : Int) := by
  rw [wrap8]
  show IntKind.wrap .u8 (((BitVec.ofInt 8 ((v % 256 : Nat) : Int)) ||| (BitVec.ofInt 8 ((128 : Nat) : Int))).toNat : Int) = _
  rw [BitVec.toNat_or, bvN (by omega), bvN (by omega), or_128 _ (by omega), wrapB (by omega) (by omega)]
  omega
theorem bits_16 {k n : Nat} (hk : k < 16) (hn : n < 16) : Go.Lf.bits .or .i64 ((k * 16 : Nat) : Int) (n : Int) = ((k * 16 + n : Nat) : Int) := by
  show IntKind.wrap .i64 (((BitVec.ofInt 64 ((k * 16 : Nat) : Int)) ||| (BitVec.ofInt 64 (n : Int))).toNat : Int) = _
  rw [BitVec.toNat_or, bvN (by omega), bvN (by omega), Nat.or_comm, show k * 16 = k * 2 ^ 4 from rfl, or_add (by omega), wrapI (by omega) (by omega)]
  omega
theorem ints_app (a b : List UInt8) : ints (a ++ b) = ints a ++ ints b := List.map_append
theorem ints_one (n : Nat) (h : n < 256) : ints [UInt8.ofNat n] = [(n : Int)] := by
  show [((UInt8.ofNat n).toNat : Int)] = _
  rw [byte_nat h]
theorem putU_loop (B : Int × List Int → Option ((Int × List Int) ⊕ (Int × List Int)))
    (hB : ∀ z2, B z2 = bif (decide ((127 : Int) < z2.1)) then ((Go.Lf.app (1 : Nat) z2.2 ((Go.Lf.bits .or .u8 (Go.IntKind.wrap .u8 z2.1) (128 : Int)) :: ([] : List (Int))))).bind fun r3 =>
     ((Go.Lf.nn (7 : Int) (Int.fdiv z2.1 ((2 : Int) ^ (Min.min (Int.toNat (7 : Int)) (64 : Nat)))))).bind fun r4 =>
     some (.inl (r4, r3))
     else some (.inr (z2.1, z2.2))) : ∀ (v : Nat) (acc : List UInt8), acc.length + (uintS v).length ≤ 1000 → ∃ (w : Nat) (p : List UInt8), w < 128 ∧ loopC B ((v : Int), ints acc) = some ((w : Int), ints (acc ++ p)) ∧ uintS v = p ++ [UInt8.ofNat w] := by
  intro v
  induction v using Nat.strongRecOn with
  | ind v ih =>
  intro acc hl
  by_cases h : v < 128
  · refine ⟨v, [], h, ?_, by rw [uint_lo h]; rfl⟩
    rw [loopC_step, hB, decide_eq_false (by omega), cond_false, Option.bind_some, List.append_nil]
  · rw [uint_hi h, List.length_cons] at hl
    obtain ⟨w, p, h1, h2, h3⟩ := ih (v / 128) (by omega) (acc ++ [UInt8.ofNat (v % 128 + 128)]) (by simp only [List.length_append, List.length_cons, List.length_nil]; omega)
    refine ⟨w, UInt8.ofNat (v % 128 + 128) :: p, h1, ?_, by rw [uint_hi h, h3]; rfl⟩
    rw [loopC_step, hB, decide_eq_true (by omega), cond_true, app_of (by rw [ints_len]; simp only [List.length_cons, List.length_nil]; omega), Option.bind_some, bits_128]
    have hd : nn (7 : Int) (Int.fdiv (v : Int) ((2 : Int) ^ (Min.min (Int.toNat (7 : Int)) (64 : Nat)))) = some ((v / 128 : Nat) : Int) := by
      unfold nn
      rw [if_neg (by omega), show (2 : Int) ^ (Min.min (Int.toNat (7 : Int)) (64 : Nat)) = 128 from rfl, Int.fdiv_eq_ediv_of_nonneg _ (by omega)]
      congr 1
    rw [hd, Option.bind_some, Option.bind_some]
    rw [ints_app, ints_one _ (by omega)] at h2
    show loopC B _ = _
    rw [h2, List.append_assoc]; rfl
theorem refU_loop (B : Int × List Int → Option ((Int × List Int) ⊕ (Int × List Int)))
    (hB : ∀ z1, B z1 = bif (decide ((128 : Int) ≤ z1.1)) then ((Go.Lf.nz (128 : Int) (Int.tmod z1.1 (128 : Int)))).bind fun r2 =>
     ((Go.Lf.app (1 : Nat) z1.2 ((Go.IntKind.wrap .u8 (Go.IntKind.wrap .u64 (r2 + (128 : Int)))) :: ([] : List (Int))))).bind fun r3 =>
     ((Go.Lf.nz (128 : Int) (Go.IntKind.wrap .u64 (Int.tdiv z1.1 (128 : Int))))).bind fun r4 =>
     some (.inl (r4, r3))
     else some (.inr (z1.1, z1.2))) : ∀ (v : Nat) (acc : List UInt8), v < 18446744073709551616 → acc.length + (uintS v).length ≤ 1000 → ∃ (w : Nat) (p : List UInt8), w < 128 ∧ loopC B ((v : Int), ints acc) = some ((w : Int), ints (acc ++ p)) ∧ uintS v = p ++ [UInt8.ofNat w] := by
  intro v
  induction v using Nat.strongRecOn with
  | ind v ih =>
  intro acc hv hl
  by_cases h : v < 128
  · refine ⟨v, [], h, ?_, by rw [uint_lo h]; rfl⟩
    rw [loopC_step, hB, decide_eq_false (by omega), cond_false, Option.bind_some, List.append_nil]
  · rw [uint_hi h, List.length_cons] at hl
    obtain ⟨w, p, h1, h2, h3⟩ := ih (v / 128) (by omega) (acc ++ [UInt8.ofNat (v % 128 + 128)]) (by omega) (by simp only [List.length_append, List.length_cons, List.length_nil]; omega)
    refine ⟨w, UInt8.ofNat (v % 128 + 128) :: p, h1, ?_, by rw [uint_hi h, h3]; rfl⟩
    have t1 : Int.tmod (v : Int) 128 = ((v % 128 : Nat) : Int) := by rw [Int.tmod_eq_emod_of_nonneg (by omega)]; omega
    have t2 : Int.tdiv (v : Int) 128 = ((v / 128 : Nat) : Int) := by rw [Int.tdiv_eq_ediv_of_nonneg (by omega)]; omega
    rw [loopC_step, hB, decide_eq_true (by omega), cond_true, t1, t2]
    unfold nz
    rw [if_neg (by omega), Option.bind_some, app_of (by rw [ints_len]; simp only [List.length_cons, List.length_nil]; omega), Option.bind_some, if_neg (by omega), Option.bind_some, Option.bind_some, wrapU (x := ((v % 128 : Nat) : Int) + 128) (by omega) (by omega), wrapU (x := ((v / 128 : Nat) : Int)) (by omega) (by omega), wrapB (by omega) (by omega)]
    rw [ints_app, ints_one _ (by omega)] at h2
    show loopC B _ = _
    rw [show ((v % 128 : Nat) : Int) + 128 = ((v % 128 + 128 : Nat) : Int) by omega, h2, List.append_assoc]; rfl
theorem putUint_eq (v : Nat) (acc : List UInt8) (hv : v < 4294967296) (ha : acc.length ≤ 100) : octet_PutUint (ints acc) (v : Int) = some (ints (acc ++ uintS v)) := by
  have hl := uint_len 4 v (by have : (128 : Nat) ^ 5 = 34359738368 := by decide
                              omega)
  unfold octet_PutUint octet_grown made0
  rw [ints_len, wrapI (x := (acc.length : Int) + 10) (by omega) (by omega), if_pos (by omega), Option.bind_some, app_of (by rw [ints_len]; simp only [List.length_nil]; omega), Option.bind_some, Option.bind_some, List.nil_append]
  obtain ⟨w, p, h1, h2, h3⟩ := putU_loop _ (fun _ => rfl) v acc (by omega)
  have hp : p.length ≤ 5 := by have := congrArg List.length h3; rw [List.length_append] at this; omega
  rw [h2, Option.bind_some, app_of (by rw [ints_len, List.length_append]; simp only [List.length_cons, List.length_nil]; omega), Option.bind_some, wrapB (by omega) (by omega), h3, ints_app, ints_app, ints_app, ints_one _ (by omega), List.append_assoc]
theorem refUint_eq (v : Nat) (hv : v < 4294967296) : folioref16_Uint (v : Int) = some (ints (uintS v)) := by
  have hl := uint_len 4 v (by have : (128 : Nat) ^ 5 = 34359738368 := by decide
                              omega)
  unfold folioref16_Uint
  obtain ⟨w, p, h1, h2, h3⟩ := refU_loop _ (fun _ => rfl) v [] (by omega) (by rw [List.length_nil]; omega)
  have hp : p.length ≤ 5 := by have := congrArg List.length h3; rw [List.length_append] at this; omega
  have h2 : loopC _ ((v : Int), ([] : List Int)) = _ := h2
  rw [h2, Option.bind_some, app_of (by rw [ints_len, List.nil_append]; simp only [List.length_cons, List.length_nil]; omega), Option.bind_some, wrapB (by omega) (by omega), h3, List.nil_append, ints_app, ints_one _ (by omega)]
theorem put_eq {k n : Int} (hk : 1 ≤ k ∧ k ≤ 15) (hn : 0 ≤ n ∧ n ≤ 2147483648) : code_put [] k n = some (ints (putS k n)) := by
  obtain ⟨K, rfl⟩ : ∃ K : Nat, k = (K : Int) := ⟨k.toNat, by omega⟩
  obtain ⟨m, rfl⟩ : ∃ m : Nat, n = (m : Int) := ⟨n.toNat, by omega⟩
  have h16 : IntKind.wrap .i64 ((K : Int) * (2 : Int) ^ (Min.min (Int.toNat (4 : Int)) (64 : Nat))) = ((K * 16 : Nat) : Int) := by
    rw [show (2 : Int) ^ (Min.min (Int.toNat (4 : Int)) (64 : Nat)) = 16 from rfl, wrapI (by omega) (by omega)]; omega
  unfold code_put putS
  rw [h16]
  unfold nn
  rw [if_neg (by omega), Option.bind_some, Option.bind_some]
  by_cases h : m < 15
  · rw [decide_eq_true (by omega), cond_true, if_pos (by omega), bits_16 (by omega) (by omega), wrapB (by omega) (by omega), app_of (by simp), Option.bind_some, List.nil_append, show ((K : Int) * 16 + (m : Int)).toNat = K * 16 + m by omega, ints_one _ (by omega)]
  · rw [decide_eq_false (by omega), cond_false, if_neg (by omega)]
    have := bits_16 (k := K) (n := 15) (by omega) (by omega)
    have this : Go.Lf.bits .or .i64 ((K * 16 : Nat) : Int) 15 = ((K * 16 + 15 : Nat) : Int) := this
    rw [this, wrapB (by omega) (by omega), app_of (by simp), Option.bind_some, List.nil_append, wrapI (x := (m : Int) - 15) (by omega) (by omega), wrapU (by omega) (by omega)]
    have h2 := putUint_eq (m - 15) [UInt8.ofNat (K * 16 + 15)] (by omega) (by simp)
    rw [ints_one _ (by omega), show ((m - 15 : Nat) : Int) = (m : Int) - 15 by omega] at h2
    rw [h2, Option.bind_some, show ((K : Int) * 16 + 15).toNat = K * 16 + 15 by omega, show ((m : Int) - 15).toNat = m - 15 by omega]; rfl
theorem instr_eq {k n : Int} (hk : 1 ≤ k ∧ k ≤ 15) (hn : 0 ≤ n ∧ n ≤ 2147483648) : folioref16_instruction k n = some (ints (putS k n)) := by
  obtain ⟨K, rfl⟩ : ∃ K : Nat, k = (K : Int) := ⟨k.toNat, by omega⟩
  obtain ⟨m, rfl⟩ : ∃ m : Nat, n = (m : Int) := ⟨n.toNat, by omega⟩
  unfold folioref16_instruction putS
  rw [wrapI (x := 16 * (K : Int)) (by omega) (by omega)]
  by_cases h : m < 15
  · rw [decide_eq_true (by omega), cond_true, if_pos (by omega), wrapI (by omega) (by omega), wrapB (by omega) (by omega), show ((K : Int) * 16 + (m : Int)).toNat = K * 16 + m by omega, ints_one _ (by omega)]
    congr 2; omega
  · rw [decide_eq_false (by omega), cond_false, if_neg (by omega), wrapI (x := (m : Int) - 15) (by omega) (by omega), wrapU (by omega) (by omega), show (m : Int) - 15 = ((m - 15 : Nat) : Int) by omega, refUint_eq _ (by omega), Option.bind_some, wrapI (by omega) (by omega), wrapB (by omega) (by omega)]
    have hl := uint_len 4 (m - 15) (by have : (128 : Nat) ^ 5 = 34359738368 := by decide
                                       omega)
    rw [app_of (by rw [ints_len]; simp only [List.length_cons, List.length_nil]; omega), Option.bind_some, Int.toNat_natCast, show ((K : Int) * 16 + 15).toNat = K * 16 + 15 by omega]
    show some ([16 * (K : Int) + 15] ++ ints (uintS (m - 15))) = some (ints ([UInt8.ofNat (K * 16 + 15)] ++ uintS (m - 15)))
    rw [ints_app, ints_one _ (by omega)]
    congr 3; omega

/-! ### numbers of a line -/
def madeS (k : Int) (ns : List Int) : List UInt8 × Bool :=
  if k = 12 then (if 1 ≤ ns.length ∧ ns.length ≤ 16 ∧ ∀ x ∈ ns, 0 ≤ x ∧ x ≤ 255 then (encS 12 0 ns, true) else ([], false))
  else if numbS k = true then (match ns with
    | [n] => (putS k (max (opS k n []) 0), decide (0 ≤ opS k n []))
    | _ => ([], false))
  else (putS k 0, decide (ns = []))
def inR (n : Int) : Bool := decide (-1 ≤ n ∧ n ≤ 2147483647)
def bytesS (k : Int) (ns : List Int) : List UInt8 × Bool :=
  if k ≠ 12 ∧ numbS k = true then (match ns with
    | [n] => if inR n = true then madeS k ns else ([], false)
    | _ => ([], false))
  else madeS k ns
theorem width_loop (l : List Int) (hl : l.length ≤ 16) (acc : List UInt8) (ha : acc.length ≤ 100) (B : Int × List Int → Option ((Int × List Int) ⊕ (List Int ⊕ (List Int × Bool))))
    (hB : ∀ (j : Nat) (x : Int) (a : List Int), l[j]? = some x → a.length ≤ 200 → B ((j : Int), a) = if 0 ≤ x ∧ x ≤ 255 then some (.inl (((j + 1 : Nat) : Int), a ++ [x])) else some (.inr (.inr ([], false))))
    (hE : ∀ a, B ((l.length : Int), a) = some (.inr (.inl a))) : loopC B ((0 : Int), ints acc) = some (if ∀ x ∈ l, 0 ≤ x ∧ x ≤ 255 then .inl (ints (acc ++ wBytes l)) else .inr ([], false)) := by
  have key : ∀ (m j : Nat) (a : List Int), j + m = l.length → a.length ≤ 100 + j → loopC B ((j : Int), a) = some (if ∀ x ∈ l.drop j, 0 ≤ x ∧ x ≤ 255 then .inl (a ++ l.drop j) else .inr ([], false)) := by
    intro m
    induction m with
    | zero =>
      intro j a hj _
      have : j = l.length := by omega
      subst this
      rw [loopC_step, hE, List.drop_length, if_pos (by intro x hx; cases hx), List.append_nil]; rfl
    | succ m ih =>
      intro j a hj hal
      have hlt : j < l.length := by omega
      have hg : l[j]? = some l[j] := List.getElem?_eq_getElem hlt
      rw [loopC_step, hB j _ a hg (by omega), List.drop_eq_getElem_cons hlt]
      by_cases hx : 0 ≤ l[j] ∧ l[j] ≤ 255
      · rw [if_pos hx, Option.bind_some]
        show loopC B _ = _
        rw [ih (j + 1) (a ++ [l[j]]) (by omega) (by simp only [List.length_append, List.length_cons, List.length_nil]; omega)]
        by_cases hr : ∀ x ∈ l.drop (j + 1), 0 ≤ x ∧ x ≤ 255
        · rw [if_pos hr, if_pos (by intro x hm; rcases List.mem_cons.1 hm with rfl | hm; exact hx; exact hr x hm), List.append_assoc]; rfl
        · rw [if_neg hr, if_neg (fun h => hr fun x hm => h x (List.mem_cons_of_mem _ hm))]
      · rw [if_neg hx, Option.bind_some, if_neg (fun h => hx (h _ List.mem_cons_self))]
  have k := key l.length 0 (ints acc) (by omega) (by rw [ints_len]; omega)
  have k : loopC B ((0 : Int), ints acc) = _ := k
  rw [k, List.drop_zero]
  congr 1
  by_cases h : ∀ x ∈ l, 0 ≤ x ∧ x ≤ 255
  · rw [if_pos h, if_pos h, ints_app, ints_w h]
  · rw [if_neg h, if_neg h]
theorem wrapW {x : Int} (h : 0 ≤ x ∧ x ≤ 255) : IntKind.wrap .u8 x = x := wrapB h.1 (by omega)
theorem put_len {k n : Int} (hn : n ≤ 2147483648) : (putS k n).length ≤ 10 := by
  unfold putS
  split
  · simp
  · have := uint_len 4 (n - 15).toNat (by have : (128 : Nat) ^ 5 = 34359738368 := by decide
                                          omega)
    simp only [List.length_cons]; omega
theorem enc12 (ns : List Int) : encS 12 0 ns = putS 12 ((ns.length : Int) - 1) ++ wBytes ns := by
  unfold encS opS
  rw [if_neg (by decide), if_neg (by decide), if_pos rfl, if_pos rfl]
theorem opS_1 (n : Int) : opS 1 n [] = n - 1 := rfl
theorem opS_8 (n : Int) : opS 8 n [] = n + 1 := rfl
theorem opS_o {k : Int} (n : Int) (h1 : k ≠ 1) (h8 : k ≠ 8) (h12 : k ≠ 12) : opS k n [] = n := by
  unfold opS
  rw [if_neg h1, if_neg h8, if_neg h12]
/-- the words' numbers -/
def fA : List (List UInt8) → List Int → Option (List Int)
  | [], acc => some acc
  | w :: r, acc => match strconv_Atoi w with
    | some (v, none) => if inR v = true then fA r (acc ++ [v]) else none
    | _ => none
theorem fA_bd : ∀ (ws : List (List UInt8)) (acc ns : List Int), fA ws acc = some ns → (∀ x ∈ acc, inR x = true) → (∀ x ∈ ns, inR x = true) ∧ ns.length = acc.length + ws.length
  | [], acc, ns, h, ha => by
    injection h with h
    subst h
    exact ⟨ha, by simp⟩
  | w :: r, acc, ns, h, ha => by
    unfold fA at h
    split at h
    · rename_i v hv
      split at h
      · rename_i hr
        have := fA_bd r _ ns h (by
          intro x hx
          rcases List.mem_append.1 hx with hx | hx
          · exact ha x hx
          · rw [List.mem_singleton] at hx; rw [hx]; exact hr)
        refine ⟨this.1, ?_⟩
        rw [this.2]
        simp only [List.length_append, List.length_cons, List.length_nil]; omega
      · cases h
    · cases h
theorem fA_itoa : ∀ (l acc : List Int), (∀ x ∈ l, inR x = true) → fA (l.map Lib.itoa) acc = some (acc ++ l)
  | [], acc, _ => by show some acc = _; rw [List.append_nil]
  | x :: r, acc, h => by
    have hx := h x List.mem_cons_self
    have hb : -1 ≤ x ∧ x ≤ 2147483647 := by unfold inR at hx; exact of_decide_eq_true hx
    show fA (Lib.itoa x :: r.map Lib.itoa) acc = _
    unfold fA
    rw [atoi_itoa (by omega) (by omega)]
    dsimp only
    rw [if_pos hx, fA_itoa r _ fun y hy => h y (List.mem_cons_of_mem _ hy), List.append_assoc]; rfl
theorem made_eq {k : Int} (hk : 1 ≤ k ∧ k ≤ 15) (ws : List (List UInt8)) (hw : ws.length ≤ 1048577) (hwl : ∀ w ∈ ws, w.length ≤ 1048576) :
    code_made k ws = some (match fA ws [] with | some ns => (ints (madeS k ns).1, (madeS k ns).2) | none => ([], false)) := by
  unfold code_made
  have L : ∀ (B : Int × List Int → Option ((Int × List Int) ⊕ (List Int ⊕ (List Int × Bool))))
      (hB : ∀ z1, B z1 = bif (decide (z1.1 < (((List.length ws) : Nat) : Int))) then ((Go.Lf.idx ws z1.1)).bind fun r2 =>
     ((Go.Fn.strconv_Atoi r2)).bind fun r3 =>
     (bif (!(Option.isSome r3.2)) then bif (!(decide (r3.1 < (-(1 : Int))))) then some ((decide ((2147483647 : Int) < r3.1)), z1.2)
       else some (true, z1.2)
       else some (true, z1.2)).bind fun r4 =>
     bif r4.1 then some (.inr (.inr (([] : List (Int)), false)))
     else ((Go.Lf.app (8 : Nat) r4.2 (r3.1 :: ([] : List (Int))))).bind fun r5 =>
     some (.inl ((Go.IntKind.wrap .i64 (z1.1 + (1 : Int))), r5))
     else some (.inr (.inl z1.2))) (m j : Nat) (acc : List Int), j + m = ws.length → acc.length ≤ j → loopC B ((j : Int), acc) = some (match fA (ws.drop j) acc with | some ns => .inl ns | none => .inr ([], false)) := by
    intro B hB m
    induction m with
    | zero =>
      intro j acc hj _
      have : j = ws.length := by omega
      subst this
      rw [loopC_step, hB]
      simp only [Int.lt_irrefl, decide_false, cond_false, Option.bind_some]
      rw [List.drop_length]; rfl
    | succ m ih =>
      intro j acc hj ha
      have hlt : j < ws.length := by omega
      have hg : ws[j]? = some ws[j] := List.getElem?_eq_getElem hlt
      have hwj := hwl _ (List.getElem_mem hlt)
      rw [loopC_step, hB, List.drop_eq_getElem_cons hlt]
      simp only [show (j : Int) < (ws.length : Int) by omega, decide_true, cond_true, idx_nat, hg, Option.bind_some]
      unfold fA
      have htot : ∃ q, strconv_Atoi ws[j] = some q := by
        unfold strconv_Atoi
        rw [if_pos (by omega)]
        exact ⟨_, rfl⟩
      obtain ⟨⟨v, e⟩, hq⟩ := htot
      rw [hq]
      simp only [Option.bind_some]
      cases e with
      | some u => simp only [Option.isSome_some, Bool.not_true, cond_false, Option.bind_some, cond_true]
      | none =>
        simp only [Option.isSome_none, Bool.not_false, cond_true]
        unfold inR
        by_cases h1 : v < -1
        · simp only [h1, decide_true, Bool.not_true, cond_false, Option.bind_some, cond_true]
          rw [if_neg (by rw [decide_eq_true_eq]; omega)]
        · by_cases h2 : (2147483647 : Int) < v
          · simp only [h1, h2, decide_true, decide_false, Bool.not_false, cond_true, Option.bind_some]
            rw [if_neg (by rw [decide_eq_true_eq]; omega)]
          · simp only [h1, h2, decide_false, Bool.not_false, cond_true, cond_false, Option.bind_some]
            rw [if_pos (by rw [decide_eq_true_eq]; omega), app_of (by simp only [List.length_cons, List.length_nil]; omega), Option.bind_some, wrapS (by omega)]
            exact ih (j + 1) (acc ++ [v]) (by omega) (by simp only [List.length_append, List.length_cons, List.length_nil]; omega)
  have L0 := L _ (fun _ => rfl) ws.length 0 [] (by omega) (Nat.le_refl _)
  rw [List.drop_zero] at L0
  have L0 : loopC _ ((0 : Int), ([] : List Int)) = _ := L0
  rw [L0, Option.bind_some]
  cases hf : fA ws [] with
  | none => rfl
  | some ns =>
    have hbd := fA_bd ws [] ns hf (by intro x hx; cases hx)
    simp only [onSum]
    unfold madeS
    by_cases h12 : k = 12
    · subst h12
      rw [show decide ((12 : Int) = 12) = true from rfl, cond_true, if_pos rfl]
      by_cases hlen : 1 ≤ ns.length ∧ ns.length ≤ 16
      · simp only [show ¬ ((ns.length : Int) < 1) by omega, show ¬ ((16 : Int) < (ns.length : Int)) by omega, decide_false, Bool.not_false, cond_true, Option.bind_some, cond_false]
        rw [wrapI (by omega) (by omega), put_eq (by omega) (by omega), Option.bind_some]
        have W := width_loop ns hlen.2 (putS 12 ((ns.length : Int) - 1)) (by have := put_len (k := 12) (n := (ns.length : Int) - 1) (by omega); omega) (fun z10 =>
     bif (decide (z10.1 < (((List.length ns) : Nat) : Int))) then ((Go.Lf.idx ns z10.1)).bind fun r11 =>
     (bif (!(decide (r11 < (0 : Int)))) then some ((decide ((255 : Int) < r11)), z10.2)
       else some (true, z10.2)).bind fun r12 =>
     bif r12.1 then some (.inr (.inr (([] : List (Int)), false)))
     else ((Go.Lf.app (1 : Nat) r12.2 ((Go.IntKind.wrap .u8 r11) :: ([] : List (Int))))).bind fun r13 =>
     some (.inl ((Go.IntKind.wrap .i64 (z10.1 + (1 : Int))), r13))
     else some (.inr (.inl z10.2))) (fun j x a hj hal => by
          have hlt := (List.getElem?_eq_some_iff.1 hj).1
          simp only [show (j : Int) < (ns.length : Int) by omega, decide_true, cond_true, idx_nat, hj, Option.bind_some]
          by_cases hx : 0 ≤ x ∧ x ≤ 255
          · simp only [show ¬ x < 0 by omega, show ¬ (255 : Int) < x by omega, decide_false, Bool.not_false, cond_true, Option.bind_some, cond_false]
            rw [wrapW hx, app_of (by simp only [List.length_cons, List.length_nil]; omega), Option.bind_some, wrapS (by omega), if_pos hx]
          · rw [if_neg hx]
            by_cases h0 : x < 0
            · simp only [h0, decide_true, Bool.not_true, cond_false, Option.bind_some, cond_true]
            · simp only [h0, show (255 : Int) < x by omega, decide_false, decide_true, Bool.not_false, cond_true, Option.bind_some]) (fun a => by simp only [Int.lt_irrefl, decide_false, cond_false])
        rw [W, Option.bind_some]
        by_cases hall : ∀ x ∈ ns, 0 ≤ x ∧ x ≤ 255
        · rw [if_pos hall, if_pos ⟨hlen.1, hlen.2, hall⟩, enc12]; all_goals rfl
        · rw [if_neg hall, if_neg (fun h => hall h.2.2)]; rfl
      · rw [if_neg (fun h => hlen ⟨h.1, h.2.1⟩)]
        by_cases h0 : (ns.length : Int) < 1
        · simp only [h0, decide_true, Bool.not_true, cond_false, Option.bind_some, cond_true]; rfl
        · simp only [h0, show (16 : Int) < (ns.length : Int) by omega, decide_false, decide_true, Bool.not_false, cond_true, Option.bind_some]; rfl
    · rw [decide_eq_false h12, cond_false, if_neg h12, numb_eq, Option.bind_some]
      cases hn : numbS k with
      | false =>
        rw [Bool.not_false, cond_true, put_eq hk (by omega), Option.bind_some, if_neg (by decide)]
        congr 2
        rw [decide_eq_decide]
        constructor
        · intro h; exact List.length_eq_zero_iff.1 (by omega)
        · intro h; rw [h]; rfl
      | true =>
        rw [Bool.not_true, cond_false, if_pos rfl]
        match ns, hbd with
        | [], _ => rfl
        | _ :: _ :: _, _ =>
          rw [decide_eq_true (by simp only [List.length_cons]; omega), cond_true]; rfl
        | [n], hbd =>
          have hr := hbd.1 n List.mem_cons_self
          have hr : -1 ≤ n ∧ n ≤ 2147483647 := by unfold inR at hr; exact of_decide_eq_true hr
          rw [decide_eq_false (by simp), cond_false]
          show ((some n).bind _) = _
          rw [Option.bind_some]
          have hv : (bif decide (k = 1) then some (IntKind.wrap .i64 (n - 1)) else bif decide (k = 8) then some (IntKind.wrap .i64 (n + 1)) else some n) = some (opS k n []) := by
            by_cases h1 : k = 1
            · subst h1; rw [show decide ((1 : Int) = 1) = true from rfl, cond_true, wrapI (by omega) (by omega), opS_1]
            · rw [decide_eq_false h1, cond_false]
              by_cases h8 : k = 8
              · subst h8; rw [show decide ((8 : Int) = 8) = true from rfl, cond_true, wrapI (by omega) (by omega), opS_8]
              · rw [decide_eq_false h8, cond_false, opS_o n h1 h8 h12]
          have hob : opS k n [] ≤ 2147483648 := by
            unfold opS
            split
            · omega
            · split
              · omega
              · first | omega | (rw [if_neg h12]; omega)
          rw [hv, Option.bind_some, put_eq hk (by omega), Option.bind_some]
theorem bytes_eq {k : Int} (hk : 1 ≤ k ∧ k ≤ 15) (ns : List Int) (hl : ns.length ≤ 1048577) (hb : ∀ x ∈ ns, -30000000000 ≤ x ∧ x ≤ 30000000000) :
    folioref16_bytes k ns = some (ints (bytesS k ns).1, (bytesS k ns).2) := by
  unfold folioref16_bytes bytesS
  rw [decide_eq_false (show ¬ k = 0 by omega), cond_false]
  by_cases h12 : k = 12
  · subst h12
    rw [show decide ((12 : Int) = 12) = true from rfl, cond_true, if_neg (fun h => h.1 rfl)]
    unfold madeS
    rw [if_pos rfl]
    by_cases hlen : 1 ≤ ns.length ∧ ns.length ≤ 16
    · simp only [show ¬ ((ns.length : Int) < 1) by omega, show ¬ ((16 : Int) < (ns.length : Int)) by omega, decide_false, Bool.not_false, cond_true, Option.bind_some, cond_false]
      rw [wrapI (by omega) (by omega), instr_eq (by omega) (by omega), Option.bind_some]
      have W := width_loop ns hlen.2 (putS 12 ((ns.length : Int) - 1)) (by have := put_len (k := 12) (n := (ns.length : Int) - 1) (by omega); omega) (fun z3 =>
     bif (decide (z3.1 < (((List.length ns) : Nat) : Int))) then (((Go.Lf.idx ns z3.1)).bind fun r4 =>
       bif (!(decide (r4 < (0 : Int)))) then ((Go.Lf.idx ns z3.1)).bind fun r5 =>
       some ((decide ((255 : Int) < r5)), z3.2)
       else some (true, z3.2)).bind fun r6 =>
     bif r6.1 then some (.inr (.inr (([] : List (Int)), false)))
     else ((Go.Lf.idx ns z3.1)).bind fun r7 =>
     ((Go.Lf.app (1 : Nat) r6.2 ((Go.IntKind.wrap .u8 r7) :: ([] : List (Int))))).bind fun r8 =>
     some (.inl ((Go.IntKind.wrap .i64 (z3.1 + (1 : Int))), r8))
     else some (.inr (.inl z3.2))) (fun j x a hj hal => by
          have hlt := (List.getElem?_eq_some_iff.1 hj).1
          simp only [show (j : Int) < (ns.length : Int) by omega, decide_true, cond_true, idx_nat, hj, Option.bind_some]
          by_cases hx : 0 ≤ x ∧ x ≤ 255
          · simp only [show ¬ x < 0 by omega, show ¬ (255 : Int) < x by omega, decide_false, Bool.not_false, cond_true, Option.bind_some, cond_false]
            rw [wrapW hx, app_of (by simp only [List.length_cons, List.length_nil]; omega), Option.bind_some, wrapS (by omega), if_pos hx]
          · rw [if_neg hx]
            by_cases h0 : x < 0
            · simp only [h0, decide_true, Bool.not_true, cond_false, Option.bind_some, cond_true]
            · simp only [h0, show (255 : Int) < x by omega, decide_false, decide_true, Bool.not_false, cond_true, Option.bind_some]) (fun a => by simp only [Int.lt_irrefl, decide_false, cond_false])
      rw [W, Option.bind_some]
      by_cases hall : ∀ x ∈ ns, 0 ≤ x ∧ x ≤ 255
      · rw [if_pos hall, if_pos ⟨hlen.1, hlen.2, hall⟩, enc12]; all_goals rfl
      · rw [if_neg hall, if_neg (fun h => hall h.2.2)]; rfl
    · rw [if_neg (fun h => hlen ⟨h.1, h.2.1⟩)]
      by_cases h0 : (ns.length : Int) < 1
      · simp only [h0, decide_true, Bool.not_true, cond_false, Option.bind_some, cond_true]; rfl
      · simp only [h0, show (16 : Int) < (ns.length : Int) by omega, decide_false, decide_true, Bool.not_false, cond_true, Option.bind_some]; rfl
  · rw [decide_eq_false h12, cond_false, rnumb_eq, Option.bind_some]
    cases hn : numbS k with
    | false =>
      rw [cond_false, instr_eq hk (by omega), Option.bind_some, if_neg (fun h => by cases h.2)]
      unfold madeS
      rw [if_neg h12, hn, if_neg (by decide)]
      congr 2
      rw [decide_eq_decide]
      constructor
      · intro h; exact List.length_eq_zero_iff.1 (by omega)
      · intro h; rw [h]; rfl
    | true =>
      rw [cond_true, if_pos ⟨h12, rfl⟩]
      match ns, hb with
      | [], _ => rfl
      | _ :: _ :: _, _ =>
        rw [decide_eq_true (by simp only [List.length_cons]; omega), Bool.not_true, cond_false, Option.bind_some, cond_true]; rfl
      | [n], hb =>
        have hb := hb n List.mem_cons_self
        have hi : idx [n] 0 = some n := rfl
        rw [decide_eq_false (by simp), Bool.not_false, cond_true, hi]
        simp only [Option.bind_some]
        unfold inR
        by_cases h1 : n < -1
        · simp only [h1, decide_true, Bool.not_true, cond_false, Option.bind_some, cond_true]
          rw [if_neg (by rw [decide_eq_true_eq]; omega)]; rfl
        · by_cases h2 : (2147483647 : Int) < n
          · simp only [h1, h2, decide_true, decide_false, Bool.not_false, cond_true, Option.bind_some]
            rw [if_neg (by rw [decide_eq_true_eq]; omega)]; rfl
          · simp only [h1, h2, decide_false, Bool.not_false, cond_true, cond_false, Option.bind_some]
            rw [if_pos (by rw [decide_eq_true_eq]; omega)]
            unfold madeS
            rw [if_neg h12, hn, if_pos rfl]
            have hv : ((bif decide (k = 1) then some (IntKind.wrap .i64 (n - 1)) else some n).bind fun r17 => (bif decide (k = 8) then some (IntKind.wrap .i64 (r17 + 1)) else some r17)) = some (opS k n []) := by
              by_cases e1 : k = 1
              · subst e1; rw [show decide ((1 : Int) = 1) = true from rfl, cond_true, wrapI (by omega) (by omega), Option.bind_some, show decide ((1 : Int) = 8) = false from rfl, cond_false, opS_1]
              · rw [decide_eq_false e1, cond_false, Option.bind_some]
                by_cases e8 : k = 8
                · subst e8; rw [show decide ((8 : Int) = 8) = true from rfl, cond_true, wrapI (by omega) (by omega), opS_8]
                · rw [decide_eq_false e8, cond_false, opS_o n e1 e8 h12]
            have hob : opS k n [] ≤ 2147483648 := by
              unfold opS
              split
              · omega
              · split
                · omega
                · first | omega | (rw [if_neg h12]; omega)
            rw [← Option.bind_assoc, hv, Option.bind_some, instr_eq hk (by omega), Option.bind_some]
end Go.Fn
/- Chapter 16, plainly: a line is read. -/
namespace Go.Fn
open Go Go.Lf

theorem k15 {k : Int} (h : 1 ≤ k ∧ k ≤ 15) : k = 1 ∨ k = 2 ∨ k = 3 ∨ k = 4 ∨ k = 5 ∨ k = 6 ∨ k = 7 ∨ k = 8 ∨ k = 9 ∨ k = 10 ∨ k = 11 ∨ k = 12 ∨ k = 13 ∨ k = 14 ∨ k = 15 := by omega
theorem names_all : ((List.range 16).all fun j => (List.range 16).all fun k => j == k || !(namesL.getD j [] == namesL.getD k [])) = true := by kernel_rfl
theorem name_inj {j k : Int} (hj : 1 ≤ j ∧ j ≤ 15) (hk : 1 ≤ k ∧ k ≤ 15) (h : nameS j = nameS k) : j = k := by
  have h1 := List.all_eq_true.1 names_all j.toNat (List.mem_range.2 (by omega))
  have h2 := List.all_eq_true.1 h1 k.toNat (List.mem_range.2 (by omega))
  unfold nameS at h
  rw [h] at h2
  simp at h2
  omega
theorem name_no {k : Int} (h : 1 ≤ k ∧ k ≤ 15) : ∀ x ∈ nameS k, x ≠ 32 := by
  have hall : (nameS k).all (fun x => x != 32) = true := by rcases k15 h with rfl | rfl | rfl | rfl | rfl | rfl | rfl | rfl | rfl | rfl | rfl | rfl | rfl | rfl | rfl <;> rfl
  intro x hx
  have := List.all_eq_true.1 hall x hx
  simpa using this
section
variable {β κ : Type} {B : Int × β → Option ((Int × β) ⊕ κ)} {w : List UInt8}
theorem find_no (f : β → κ) (hno : ∀ z b, 1 ≤ z → z ≤ 15 → nameS z ≠ w → B (z, b) = some (.inl (z + 1, b))) (hend : ∀ b, B (16, b) = some (.inr (f b))) : ∀ (m : Nat) (z : Int) (b : β), 1 ≤ z → z + m = 16 → (∀ j, z ≤ j → j ≤ 15 → nameS j ≠ w) → loopC B (z, b) = some (f b)
  | 0, z, b, h1, h2, h3 => by
    have : z = 16 := by omega
    subst this
    rw [loopC_step, hend]; rfl
  | m + 1, z, b, h1, h2, h3 => by
    rw [loopC_step, hno z b h1 (by omega) (h3 z (Int.le_refl _) (by omega))]
    exact find_no f hno hend m (z + 1) b (by omega) (by omega) fun j hj => h3 j (by omega)
theorem find_pre (hno : ∀ z b, 1 ≤ z → z ≤ 15 → nameS z ≠ w → B (z, b) = some (.inl (z + 1, b))) (k : Int) (hk : k ≤ 15) : ∀ (m : Nat) (z : Int) (b : β), 1 ≤ z → z + m = k → (∀ j, z ≤ j → j < k → nameS j ≠ w) → loopC B (z, b) = loopC B (k, b)
  | 0, z, b, h1, h2, h3 => by
    have : z = k := by omega
    rw [this]
  | m + 1, z, b, h1, h2, h3 => by
    rw [loopC_step, hno z b h1 (by omega) (h3 z (Int.le_refl _) (by omega))]
    exact find_pre hno k hk m (z + 1) b (by omega) (by omega) fun j hj => h3 j (by omega)
end
/-- what is laid, read again and told -/
def finR (b : List UInt8) (a : Int) (s : List UInt8) : List Int × Bool := if (nextS b 0).2 ≠ 0 then ([], false) else (ints b, decide (lineS (a, (nextS b 0).1.2) = s))
theorem put_nil (k n : Int) : putS k n ≠ [] := by
  intro h
  have := put_pos k n
  rw [h] at this
  exact absurd this (by decide)
theorem made_ne {k : Int} {ns : List Int} (h : (madeS k ns).2 = true) : (madeS k ns).1 ≠ [] := by
  unfold madeS at h ⊢
  split
  · split
    · rw [enc12]
      intro e
      exact put_nil _ _ (List.append_eq_nil_iff.1 e).1
    · rename_i h1 h2
      rw [if_pos h1, if_neg h2] at h
      cases h
  · rename_i h1
    rw [if_neg h1] at h
    split
    · rename_i hn
      rw [if_pos hn] at h
      match ns, h with
      | [n], _ => exact put_nil _ _
    · show putS k 0 ≠ []
      exact put_nil _ _
theorem made_len {k : Int} {ns : List Int} (h : (madeS k ns).2 = true) (hb : ∀ x ∈ ns, inR x = true) : (madeS k ns).1.length ≤ 1000 := by
  unfold madeS at h ⊢
  split
  · split
    · rename_i h1 h2
      rw [enc12, List.length_append, wB_len]
      have := put_len (k := 12) (n := (ns.length : Int) - 1) (by omega)
      omega
    · simp
  · rename_i h12
    split
    · match ns, hb with
      | [n], hb =>
        have hr := hb n List.mem_cons_self
        have hr : -1 ≤ n ∧ n ≤ 2147483647 := by unfold inR at hr; exact of_decide_eq_true hr
        have := put_len (k := k) (n := max (opS k n []) 0) (by
          unfold opS
          split
          · omega
          · split
            · omega
            · first | omega | (rw [if_neg h12]; omega))
        show (putS k (max (opS k n []) 0)).length ≤ 1000
        omega
      | [], _ => simp
      | _ :: _ :: _, _ => simp
    · have := put_len (k := k) (n := 0) (by omega)
      show (putS k 0).length ≤ 1000
      omega
theorem fin_eq (b s : List UInt8) (a : Int) (ha : 0 ≤ a ∧ a ≤ 1000000000000) (hb : b.length ≤ 1048576) :
    (((Go.Fn.code_Next (ints b) (0 : Int))).bind fun r13 =>
 bif (decide ((r13.2 : Int) ≠ (0 : Int))) then some (([] : List (Int)), false)
 else ((Go.Fn.code_line (a, r13.1.2))).bind fun r14 =>
 some (ints b, (decide ((r14 : List (UInt8)) = s)))) = some (finR b a s) := by
  rw [next_eq b hb, Option.bind_some]
  unfold finR
  by_cases h : (nextS b 0).2 = 0
  · have hq : nextS b ((0 : Nat) : Int) = ((nextS b 0).1, 0) := by
      show nextS b 0 = _
      exact Prod.ext rfl h
    obtain ⟨hg, _⟩ := next_canon hq
    rw [decide_eq_false (fun e => e h), cond_false, if_neg (fun e => e h), line_eq (good_line hg a ha), Option.bind_some]
  · rw [decide_eq_true h, cond_true, if_pos h]
section
variable {s : List UInt8} {W0 W1 : List UInt8} {rest : List (List UInt8)} {a : Int} (hs : s.length ≤ 1048576) (hW : wsp s = W0 :: W1 :: rest) (ha : 0 ≤ a ∧ a ≤ 1000000000000)
include hs hW
theorem rest_ok : rest.length ≤ 1048577 ∧ ∀ w ∈ rest, w.length ≤ 1048576 := by
  have h1 := wsp_len s
  rw [hW] at h1
  simp only [List.length_cons] at h1
  refine ⟨by omega, fun w hw => ?_⟩
  have := wsp_mem s w (by rw [hW]; exact List.mem_cons_of_mem _ (List.mem_cons_of_mem _ hw))
  omega
theorem idx_1 : idx (wsp s) (1 : Int) = some W1 := by
  have _h := hs
  rw [hW]; rfl
theorem sub_2 : sub (wsp s) (2 : Int) (((List.length (wsp s)) : Nat) : Int) = some rest := by
  have _h := hs
  rw [hW]
  unfold sub
  rw [if_pos (by simp only [List.length_cons]; omega)]
  have e1 : (((W0 :: W1 :: rest).length : Nat) : Int).toNat - (2 : Int).toNat = rest.length := by simp only [List.length_cons]; omega
  have e2 : (2 : Int).toNat = 2 := rfl
  first
  | (simp only [List.length_cons, Int.toNat_natCast, e2, List.drop_succ_cons, List.drop_zero]; rw [List.take_of_length_le (by omega)])
  | simp
noncomputable def RB (s : List UInt8) (z2 : Int × List Int) : Option ((Int × List Int) ⊕ (List Int ⊕ (List Int × Bool))) :=
     bif (decide (z2.1 ≤ (15 : Int))) then (((Go.Fn.code_name z2.1)).bind fun r3 =>
       ((Go.Lf.idx (wsp s) (1 : Int))).bind fun r4 =>
       bif (decide ((r3 : List (UInt8)) ≠ r4)) then some (.inl z2.2)
       else ((Go.Lf.sub (wsp s) (2 : Int) (((List.length (wsp s)) : Nat) : Int))).bind fun r5 =>
       ((Go.Fn.code_made z2.1 r5)).bind fun r6 =>
       bif (!r6.2) then some (.inr (([] : List (Int)), false))
       else ((Go.Lf.neL r6.1)).bind fun r7 =>
       some (.inl r7) : Option ((List (Int)) ⊕ ((List (Int)) × (Bool)))).bind fun r8 =>
     Go.Lf.onSum r8 (fun a9 =>
     some (.inl ((Go.IntKind.wrap .i64 (z2.1 + (1 : Int))), a9))) (fun b10 =>
     some (.inr (.inr (b10.1, b10.2))))
     else some (.inr (.inl z2.2))
theorem RB_no (z : Int) (b : List Int) (h1 : 1 ≤ z) (h2 : z ≤ 15) (hn : nameS z ≠ W1) : RB s (z, b) = some (.inl (z + 1, b)) := by
  unfold RB
  rw [decide_eq_true (show z ≤ 15 from h2), cond_true, (name_eq ⟨h1, h2⟩).1, Option.bind_some, idx_1 hs hW, Option.bind_some, decide_eq_true hn, cond_true, Option.bind_some]
  simp only [onSum]
  rw [wrapI (by omega) (by omega)]
theorem RB_end (b : List Int) : RB s (16, b) = some (.inr (.inl b)) := by
  have _h := hs
  have _k := hW
  rfl
theorem cread_eq : code_read s a = ((loopC (RB s) ((1 : Int), ([] : List Int))).bind fun r11 => Go.Lf.onSum r11 (fun a12 =>
 bif (List.isEmpty a12) then some (([] : List (Int)), false)
 else ((Go.Fn.code_Next a12 (0 : Int))).bind fun r13 =>
 bif (decide ((r13.2 : Int) ≠ (0 : Int))) then some (([] : List (Int)), false)
 else ((Go.Fn.code_line (a, r13.1.2))).bind fun r14 =>
 some (a12, (decide ((r14 : List (UInt8)) = s)))) (fun b15 =>
 some (b15.1, b15.2))) := by
  unfold code_read
  rw [split_eq2 hs, Option.bind_some, decide_eq_false (by rw [hW]; simp only [List.length_cons]; omega), cond_false]
  rfl
theorem read_none (hno : ∀ k, 1 ≤ k → k ≤ 15 → nameS k ≠ W1) : code_read s a = some ([], false) := by
  rw [cread_eq hs hW, find_no (B := RB s) (w := W1) (fun b => .inl b) (RB_no hs hW) (RB_end hs hW) 15 1 [] (by omega) (by omega) (fun j h1 h2 => hno j h1 h2), Option.bind_some]
  rfl
include ha
theorem read_some {k : Int} (hk : 1 ≤ k ∧ k ≤ 15) (hn : nameS k = W1) : code_read s a = some (match fA rest [] with
    | some ns => if (madeS k ns).2 = true then finR (madeS k ns).1 a s else ([], false)
    | none => ([], false)) := by
  obtain ⟨r1, r2⟩ := rest_ok hs hW
  rw [cread_eq hs hW, find_pre (B := RB s) (w := W1) (RB_no hs hW) k hk.2 (k - 1).toNat 1 [] (by omega) (by omega) (fun j h1 h2 e => by
    have := name_inj ⟨h1, by omega⟩ hk (e.trans hn.symm)
    omega)]
  have step : RB s (k, []) = match fA rest [] with
    | some ns => if (madeS k ns).2 = true then some (.inl (k + 1, ints (madeS k ns).1)) else some (.inr (.inr ([], false)))
    | none => some (.inr (.inr ([], false))) := by
    unfold RB
    rw [decide_eq_true (show k ≤ 15 from hk.2), cond_true, (name_eq hk).1, Option.bind_some, idx_1 hs hW, Option.bind_some, decide_eq_false (fun h => h hn), cond_false, sub_2 hs hW, Option.bind_some, made_eq hk rest r1 r2, Option.bind_some]
    cases hf : fA rest [] with
    | none => rfl
    | some ns =>
      dsimp only
      cases hm : (madeS k ns).2 with
      | false => rfl
      | true =>
        rw [Bool.not_true, cond_false, if_pos rfl]
        have hne := made_ne hm
        cases hb : (madeS k ns).1 with
        | nil => exact absurd hb hne
        | cons x r =>
          show ((some (.inl (ints (x :: r)) : List Int ⊕ (List Int × Bool))).bind _) = _
          rw [Option.bind_some]
          simp only [onSum]
          rw [wrapI (by omega) (by omega)]
  rw [loopC_step, step]
  cases hf : fA rest [] with
  | none => rfl
  | some ns =>
    have hbd := (fA_bd rest [] ns hf (by intro x hx; cases hx)).1
    dsimp only
    cases hm : (madeS k ns).2 with
    | false => rfl
    | true =>
      rw [if_pos rfl, if_pos rfl, Option.bind_some]
      show ((loopC (RB s) (k + 1, ints (madeS k ns).1)).bind _) = _
      rw [find_no (B := RB s) (w := W1) (fun b => .inl b) (RB_no hs hW) (RB_end hs hW) (15 - k).toNat (k + 1) _ (by omega) (by omega) (fun j h1 h2 e => by
        have := name_inj (j := j) ⟨by omega, h2⟩ hk (e.trans hn.symm)
        omega), Option.bind_some]
      have hne := made_ne hm
      have hlen := made_len hm hbd
      have := fin_eq (madeS k ns).1 s a ha (by omega)
      cases hb : (madeS k ns).1 with
      | nil => exact absurd hb hne
      | cons x r =>
        rw [hb] at this
        exact this
end
/-- a line's numbers -/
def nsOf (i : Ins) : List Int := if numbS i.2.2.1 = true then [i.2.2.2.1] else i.2.2.2.2.1
theorem numb_12 : numbS 12 = false := rfl
theorem wsp_tail : ∀ (l : List Int) (p : List UInt8), (∀ x ∈ p, x ≠ 32) → wsp (p ++ wordsW l) = p :: l.map Lib.itoa
  | [], p, hp => by
    have : wordsW [] = [] := rfl
    rw [this, List.append_nil, wsp_clean p hp]; rfl
  | x :: l, p, hp => by
    have : wordsW (x :: l) = 32 :: (Lib.itoa x ++ wordsW l) := rfl
    rw [this, wsp_app p _ hp, wsp_tail l _ (itoa_no x)]; rfl
theorem line_ns {i : Ins} (h : LaidI i.2.2.1 i.2.2.2.1 i.2.2.2.2.1) : lineS i = Lib.itoa i.1 ++ 32 :: (nameS i.2.2.1 ++ wordsW (nsOf i)) := by
  unfold lineS headS nsOf
  cases hn : numbS i.2.2.1 with
  | true =>
    rw [if_pos rfl, if_pos rfl]
    have h12 : i.2.2.1 ≠ 12 := fun e => by rw [e, numb_12] at hn; cases hn
    rw [h.hw.2.2 h12]
    simp [wordsW]
  | false =>
    rw [if_neg (by decide), if_neg (by decide)]
    simp
theorem wsp_line {i : Ins} (h : LaidI i.2.2.1 i.2.2.2.1 i.2.2.2.2.1) : wsp (lineS i) = Lib.itoa i.1 :: nameS i.2.2.1 :: (nsOf i).map Lib.itoa := by
  rw [line_ns h, wsp_app _ _ (itoa_no _), wsp_tail _ _ (name_no h.hk)]
theorem nsOf_in {i : Ins} (h : LaidI i.2.2.1 i.2.2.2.1 i.2.2.2.2.1) (ht : i.2.2.1 = 1 → i.2.2.2.1 ≤ 16384) : ∀ x ∈ nsOf i, inR x = true := by
  intro x hx
  unfold nsOf at hx
  unfold inR
  rw [decide_eq_true_eq]
  cases hn : numbS i.2.2.1 with
  | true =>
    rw [hn, if_pos rfl, List.mem_singleton] at hx
    have h12 : i.2.2.1 ≠ 12 := fun e => by rw [e, numb_12] at hn; cases hn
    have ho := h.ho
    have hw0 := h.hw.2.2 h12
    rw [hw0] at ho
    rw [hx]
    by_cases h1 : i.2.2.1 = 1
    · have hn2 := laid_n h
      have := ht h1
      omega
    · by_cases h8 : i.2.2.1 = 8
      · rw [h8, opS_8] at ho; omega
      · rw [opS_o _ h1 h8 h12] at ho; omega
  | false =>
    rw [hn, if_neg (by decide)] at hx
    have := h.hw.1 x hx
    omega
theorem made_nsOf {i : Ins} (h : LaidI i.2.2.1 i.2.2.2.1 i.2.2.2.2.1) : madeS i.2.2.1 (nsOf i) = (encI i, true) := by
  unfold madeS nsOf encI
  by_cases h12 : i.2.2.1 = 12
  · have hw := h.hw.2.1 h12
    rw [h12, if_pos rfl, numb_12]
    simp only [Bool.false_eq_true, if_false]
    rw [if_pos ⟨hw.2.1, hw.2.2, h.hw.1⟩, hw.1]
  · rw [if_neg h12]
    have hw0 := h.hw.2.2 h12
    have ho := h.ho
    cases hn : numbS i.2.2.1 with
    | true =>
      rw [if_pos rfl, if_pos rfl, hw0]
      rw [hw0] at ho
      dsimp only
      unfold encS
      rw [if_neg h12, List.append_nil, decide_eq_true ho.1, show max (opS i.2.2.1 i.2.2.2.1 []) 0 = opS i.2.2.1 i.2.2.2.1 [] by omega]
    | false =>
      rw [if_neg (by decide), if_neg (by decide), hw0]
      unfold numbS at hn
      have hn := of_decide_eq_false hn
      have hn0 := h.hn hn
      unfold encS
      rw [if_neg h12, List.append_nil, hn0, opS_o 0 (by omega) (by omega) h12]
      rfl
theorem next_good {i : Ins} (h : GoodI i) : nextS (encI i) 0 = ((0, i.2), 0) := by
  have := next_enc h.l [] []
  have hl := h.long
  rw [List.append_nil, List.nil_append] at this
  have this : nextS (encI i) 0 = _ := this
  rw [this, if_neg (fun e => by have := h.t e.1; omega)]
  have e : ((([] : List UInt8).length : Nat) : Int) = 0 := rfl
  rw [e]
  obtain ⟨i1, i2, i3, i4, i5, ⟨⟩⟩ := i
  have hl : i2 = ((encI (i1, i2, i3, i4, i5, ())).length : Int) := hl
  rw [hl]; rfl
theorem read_line {i : Ins} (h : GoodI i) (a : Int) (ha : 0 ≤ a ∧ a ≤ 1000000000000) : code_read (lineS (a, i.2)) a = some (ints (encI i), true) := by
  have hL : LaidI (a, i.2).2.2.1 (a, i.2).2.2.2.1 (a, i.2).2.2.2.2.1 := h.l
  have hW := wsp_line (i := (a, i.2)) hL
  have hlen : (lineS (a, i.2)).length ≤ 1048576 := by
    have h1 := good_line h a ha
    have h2 := head_len h1
    have h3 := wordsW_len h1.w.2
    have h4 := h1.w.1
    unfold lineS
    rw [List.length_append]; omega
  rw [read_some hlen hW ha h.l.hk rfl, fA_itoa _ _ (nsOf_in hL h.t), List.nil_append]
  dsimp only
  have hm : madeS i.2.2.1 (nsOf (a, i.2)) = (encI i, true) := made_nsOf (i := (a, i.2)) hL
  rw [hm, if_pos rfl]
  unfold finR
  rw [next_good h, if_neg (fun h => h rfl), decide_eq_true rfl]
end Go.Fn
/- Chapter 16, plainly: the reference reads a line. -/
namespace Go.Fn
open Go Go.Lf

theorem numW_bd (w : List UInt8) : -30000000000 ≤ numW w ∧ numW w ≤ 30000000000 := by
  have h := fold_bd w 0 (by omega)
  unfold numW
  split <;> omega
/-- the words' numbers -/
def fN : List (List UInt8) → Option (List Int)
  | [] => some []
  | w :: r => if Lib.itoa (numW w) = w then (fN r).map (numW w :: ·) else none
theorem fN_bd : ∀ (ws : List (List UInt8)) (ns : List Int), fN ws = some ns → ns.length = ws.length ∧ ∀ x ∈ ns, -30000000000 ≤ x ∧ x ≤ 30000000000
  | [], ns, h => by
    injection h with h
    subst h
    exact ⟨rfl, fun x hx => by cases hx⟩
  | w :: r, ns, h => by
    unfold fN at h
    split at h
    · cases hr : fN r with
      | none => rw [hr] at h; cases h
      | some m =>
        rw [hr] at h
        injection h with h
        subst h
        obtain ⟨h1, h2⟩ := fN_bd r m hr
        refine ⟨by simp only [List.length_cons]; omega, fun x hx => ?_⟩
        rcases List.mem_cons.1 hx with rfl | hx
        · exact numW_bd w
        · exact h2 x hx
    · cases h
theorem fN_itoa : ∀ (l : List Int), (∀ x ∈ l, inR x = true) → fN (l.map Lib.itoa) = some l
  | [], _ => rfl
  | x :: r, h => by
    have hx := h x List.mem_cons_self
    have hx : -1 ≤ x ∧ x ≤ 2147483647 := by unfold inR at hx; exact of_decide_eq_true hx
    show (if Lib.itoa (numW (Lib.itoa x)) = Lib.itoa x then (fN (r.map Lib.itoa)).map (numW (Lib.itoa x) :: ·) else none) = _
    rw [numW_itoa (by omega) (by omega), if_pos rfl, fN_itoa r fun y hy => h y (List.mem_cons_of_mem _ hy)]
    rfl
theorem words_loop (W : List (List UInt8)) (hW : W.length ≤ 2000000) (hl : ∀ w ∈ W, w.length ≤ 1048576)
    (B : Int × List Int → Option ((Int × List Int) ⊕ (List Int ⊕ (List Int × (Int × Bool)))))
    (hB : ∀ z10, B z10 = (bif (decide (z10.1 < (((List.length W) : Nat) : Int))) then ((Go.Lf.idx W z10.1)).bind fun r11 =>
     ((Go.Fn.folioref16_number r11)).bind fun r12 =>
     bif (!r12.2) then some (.inr (.inr (([] : List (Int)), ((0 : Int), false))))
     else ((Go.Lf.app (8 : Nat) z10.2 (r12.1 :: ([] : List (Int))))).bind fun r13 =>
     some (.inl ((Go.IntKind.wrap .i64 (z10.1 + (1 : Int))), r13))
     else some (.inr (.inl z10.2)))) :
    ∀ (m j : Nat) (acc : List Int), j + m = W.length → acc.length ≤ j → loopC B ((j : Int), acc) = some (match fN (W.drop j) with
      | some ns => .inl (acc ++ ns)
      | none => .inr ([], 0, false))
  | 0, j, acc, h, ha => by
    rw [loopC_step, hB]
    dsimp only
    rw [decide_eq_false (by omega), cond_false, List.drop_of_length_le (by omega)]
    simp [fN]
  | m + 1, j, acc, h, ha => by
    have hj : j < W.length := by omega
    have hd : W.drop j = W[j] :: W.drop (j + 1) := List.drop_eq_getElem_cons hj
    have hx : idx W (j : Int) = some W[j] := by
      unfold idx
      rw [if_pos (by omega), Int.toNat_natCast, List.getElem?_eq_getElem hj]
    have hmem : W[j] ∈ W := List.getElem_mem hj
    have hnum := number_eq2 W[j] (hl _ hmem)
    rw [loopC_step, hB, hd]
    dsimp only
    rw [decide_eq_true (by omega), cond_true, hx, Option.bind_some, hnum, Option.bind_some]
    dsimp only
    by_cases hi : Lib.itoa (numW W[j]) = W[j]
    · rw [decide_eq_true hi, Bool.not_true, cond_false, app_of (by simp only [List.length_cons, List.length_nil]; omega), Option.bind_some, wrapI (by omega) (by omega)]
      show loopC B (((j : Nat) : Int) + 1, acc ++ [numW W[j]]) = _
      have := words_loop W hW hl B hB m (j + 1) (acc ++ [numW W[j]]) (by omega) (by simp only [List.length_append, List.length_cons, List.length_nil]; omega)
      rw [Int.natCast_add, Int.natCast_one] at this
      rw [this, show fN (W[j] :: W.drop (j + 1)) = if Lib.itoa (numW W[j]) = W[j] then (fN (W.drop (j + 1))).map (numW W[j] :: ·) else none from rfl, if_pos hi]
      cases fN (W.drop (j + 1)) with
      | none => rfl
      | some ns => simp
    · rw [decide_eq_false hi, Bool.not_false, cond_true, show fN (W[j] :: W.drop (j + 1)) = if Lib.itoa (numW W[j]) = W[j] then (fN (W.drop (j + 1))).map (numW W[j] :: ·) else none from rfl, if_neg hi]
      rfl
theorem bytes_in {k : Int} (ns : List Int) (h : (bytesS k ns).2 = true) : bytesS k ns = madeS k ns ∧ ∀ x ∈ ns, inR x = true := by
  unfold bytesS at h ⊢
  by_cases hk : k ≠ 12 ∧ numbS k = true
  · rw [if_pos hk] at h ⊢
    match ns, h with
    | [n], h =>
      dsimp only at h ⊢
      by_cases hn : inR n = true
      · rw [if_pos hn]
        exact ⟨rfl, fun x hx => by rw [List.mem_singleton.1 hx]; exact hn⟩
      · rw [if_neg hn] at h; cases h
    | [], h => cases h
    | _ :: _ :: _, h => cases h
  · rw [if_neg hk] at h ⊢
    refine ⟨rfl, ?_⟩
    unfold madeS at h
    by_cases h12 : k = 12
    · rw [if_pos h12] at h
      split at h
      · rename_i hc
        intro x hx
        have := hc.2.2 x hx
        unfold inR
        rw [decide_eq_true_eq]; omega
      · cases h
    · rw [if_neg h12, if_neg (fun e => hk ⟨h12, e⟩)] at h
      have := of_decide_eq_true h
      rw [this]
      intro x hx; cases hx
theorem bytes_made {k : Int} (ns : List Int) (h : ∀ x ∈ ns, inR x = true) (hm : (madeS k ns).2 = true) : bytesS k ns = madeS k ns := by
  unfold bytesS
  split
  · rename_i hk
    unfold madeS at hm
    rw [if_neg hk.1, if_pos hk.2] at hm
    match ns, h, hm with
    | [n], h, _ =>
      dsimp only
      rw [if_pos (h n List.mem_cons_self)]
    | [], _, hm => cases hm
    | _ :: _ :: _, _, hm => cases hm
  · rfl
theorem bytes_0 (ns : List Int) : folioref16_bytes 0 ns = some ([], false) := rfl
/-- the reference's loop over the names -/
noncomputable def RN (W1 : List (List UInt8)) (z5 : Int × Int) : Option ((Int × Int) ⊕ Int) :=
     bif (decide (z5.1 ≤ (15 : Int))) then (((Go.Lf.idx W1 (1 : Int))).bind fun r6 =>
       ((Go.Fn.folioref16_Name z5.1)).bind fun r7 =>
       bif (decide ((r6 : List (UInt8)) = r7)) then some z5.1
       else some z5.2).bind fun r8 =>
     some (.inl ((Go.IntKind.wrap .i64 (z5.1 + (1 : Int))), r8))
     else some (.inr z5.2)
theorem RN_at {W0 w : List UInt8} {rest : List (List UInt8)} (z b : Int) (h1 : 1 ≤ z) (h2 : z ≤ 15) : RN (W0 :: w :: rest) (z, b) = some (.inl (z + 1, if nameS z = w then z else b)) := by
  have hx : idx (W0 :: w :: rest) (1 : Int) = some w := rfl
  unfold RN
  dsimp only
  rw [decide_eq_true (show z ≤ 15 from h2), cond_true, hx, Option.bind_some, (name_eq ⟨h1, h2⟩).2, Option.bind_some, wrapI (by omega) (by omega)]
  by_cases h : nameS z = w
  · rw [decide_eq_true h.symm, cond_true, if_pos h]; rfl
  · rw [decide_eq_false (fun e => h e.symm), cond_false, if_neg h]; rfl
theorem RN_no {W0 w : List UInt8} {rest : List (List UInt8)} (z b : Int) (h1 : 1 ≤ z) (h2 : z ≤ 15) (hn : nameS z ≠ w) : RN (W0 :: w :: rest) (z, b) = some (.inl (z + 1, b)) := by
  rw [RN_at z b h1 h2, if_neg hn]
theorem RN_end {W : List (List UInt8)} (b : Int) : RN W (16, b) = some (.inr b) := rfl
theorem RN_none {W0 w : List UInt8} {rest : List (List UInt8)} (hno : ∀ k, 1 ≤ k → k ≤ 15 → nameS k ≠ w) : loopC (RN (W0 :: w :: rest)) ((1 : Int), (0 : Int)) = some 0 :=
  find_no (B := RN (W0 :: w :: rest)) (w := w) (fun b => b) RN_no RN_end 15 1 0 (by omega) (by omega) (fun j h1 h2 => hno j h1 h2)
theorem RN_some {W0 w : List UInt8} {rest : List (List UInt8)} {k : Int} (hk : 1 ≤ k ∧ k ≤ 15) (hn : nameS k = w) : loopC (RN (W0 :: w :: rest)) ((1 : Int), (0 : Int)) = some k := by
  rw [find_pre (B := RN (W0 :: w :: rest)) (w := w) RN_no k hk.2 (k - 1).toNat 1 0 (by omega) (by omega) (fun j h1 h2 e => by
    have := name_inj ⟨h1, by omega⟩ hk (e.trans hn.symm)
    omega), loopC_step, RN_at k 0 hk.1 hk.2, if_pos hn]
  show loopC _ (k + 1, k) = _
  exact find_no (B := RN (W0 :: w :: rest)) (w := w) (fun b => b) RN_no RN_end (15 - k).toNat (k + 1) k (by omega) (by omega) (fun j h1 h2 e => by
    have := name_inj (j := j) ⟨by omega, h2⟩ hk (e.trans hn.symm)
    omega)
/-- a line of a listing -/
def IsL (s : List UInt8) (a : Int) : Prop := ∃ i, GoodI i ∧ lineS (a, i.2) = s
theorem fin_is {b s : List UInt8} {a : Int} (h : (nextS b 0).2 = 0) (hl : lineS (a, (nextS b 0).1.2) = s) : IsL s a := by
  have hq : nextS b ((0 : Nat) : Int) = ((nextS b 0).1, 0) := by
    show nextS b 0 = _
    exact Prod.ext rfl h
  obtain ⟨hg, _⟩ := next_canon hq
  exact ⟨_, hg, hl⟩
theorem line_len {i : Ins} (h : GoodI i) (a : Int) (ha : 0 ≤ a ∧ a ≤ 1000000000000) : (lineS (a, i.2)).length ≤ 500 := by
  have h1 := good_line h a ha
  have h2 := head_len h1
  have h3 := wordsW_len h1.w.2
  have h4 := h1.w.1
  unfold lineS
  rw [List.length_append]; omega
/-- the code's read, in short -/
theorem read_tot (s : List UInt8) (hs : s.length ≤ 1048576) (a : Int) (ha : 0 ≤ a ∧ a ≤ 1000000000000) : ∃ p ok, code_read s a = some (p, ok) ∧ (ok = true → IsL s a) := by
  cases hW : wsp s with
  | nil => exact absurd hW (wsp_ne s)
  | cons W0 t =>
    cases t with
    | nil =>
      refine ⟨[], false, ?_, fun h => by cases h⟩
      unfold code_read
      rw [split_eq2 hs, Option.bind_some, hW]
      rfl
    | cons W1 rest =>
      by_cases hno : ∀ k, 1 ≤ k → k ≤ 15 → nameS k ≠ W1
      · exact ⟨[], false, read_none hs hW hno, fun h => by cases h⟩
      · have : ∃ k, (1 ≤ k ∧ k ≤ 15) ∧ nameS k = W1 := Classical.byContradiction fun hc => hno fun k h1 h2 e => hc ⟨k, ⟨h1, h2⟩, e⟩
        obtain ⟨k, hk, hn⟩ := this
        rw [read_some hs hW ha hk hn]
        refine ⟨_, _, rfl, ?_⟩
        cases hf : fA rest [] with
        | none => exact fun h => by cases h
        | some ns =>
          dsimp only
          cases hm : (madeS k ns).2 with
          | false => exact fun h => by cases h
          | true =>
            rw [if_pos rfl]
            unfold finR
            by_cases h0 : (nextS (madeS k ns).1 0).2 = 0
            · rw [if_neg (fun e => e h0)]
              intro h
              exact fin_is h0 (of_decide_eq_true h)
            · rw [if_pos h0]
              exact fun h => by cases h
theorem rfin_eq (b s : List UInt8) (a k : Int) (ha : 0 ≤ a ∧ a ≤ 1000000000000) (hb : b.length ≤ 1048576) :
    (((Go.Fn.folioref16_Next (ints b) (0 : Int))).bind fun r17 =>
 (bif (decide ((r17.2 : Int) = (0 : Int))) then ((Go.Fn.folioref16_Line (a, r17.1.2))).bind fun r18 =>
   some (ints b, (k, (decide ((r18 : List (UInt8)) = s))))
   else some (ints b, (k, false))).bind fun r19 =>
 some (r19.1, (r19.2.1, r19.2.2))) = some (ints b, (k, decide ((nextS b 0).2 = 0 ∧ lineS (a, (nextS b 0).1.2) = s))) := by
  rw [rnext_eq b hb, Option.bind_some]
  by_cases h : (nextS b 0).2 = 0
  · have hq : nextS b ((0 : Nat) : Int) = ((nextS b 0).1, 0) := by
      show nextS b 0 = _
      exact Prod.ext rfl h
    obtain ⟨hg, _⟩ := next_canon hq
    rw [decide_eq_true h, cond_true, rline_eq (good_line hg a ha), Option.bind_some, Option.bind_some]
    by_cases h2 : lineS (a, (nextS b 0).1.2) = s
    · rw [decide_eq_true h2, decide_eq_true ⟨h, h2⟩]
    · rw [decide_eq_false h2, decide_eq_false (fun e => h2 e.2)]
  · rw [decide_eq_false h, cond_false, Option.bind_some, decide_eq_false (fun e => h e.1)]
section
variable {s : List UInt8} {W0 W1 : List UInt8} {rest : List (List UInt8)} {a : Int} (hs : s.length ≤ 1048576) (hW : wsp s = W0 :: W1 :: rest) (ha : 0 ≤ a ∧ a ≤ 1000000000000)
include hs hW ha
theorem rread_no (h0 : W0 ≠ Lib.itoa a) : folioref16_read s a = some ([], (0, false)) := by
  have hx : idx (W0 :: W1 :: rest) (0 : Int) = some W0 := rfl
  unfold folioref16_read
  rw [words_eq s hs, Option.bind_some, hW, decide_eq_false (by simp only [List.length_cons]; omega), Bool.not_false, cond_true, hx, Option.bind_some, itoa_eq (by omega) (by omega), Option.bind_some, decide_eq_true h0, Option.bind_some, cond_true]
theorem rread_at (h0 : W0 = Lib.itoa a) : folioref16_read s a = (loopC (RN (W0 :: W1 :: rest)) ((1 : Int), (0 : Int))).bind fun r9 => match fN rest with
    | some ns => ((Go.Fn.folioref16_bytes r9 ns)).bind fun r16 =>
 bif (!r16.2) then some (([] : List (Int)), ((0 : Int), false))
 else ((Go.Fn.folioref16_Next r16.1 (0 : Int))).bind fun r17 =>
 (bif (decide ((r17.2 : Int) = (0 : Int))) then ((Go.Fn.folioref16_Line (a, r17.1.2))).bind fun r18 =>
   some (r16.1, (r9, (decide ((r18 : List (UInt8)) = s))))
   else some (r16.1, (r9, false))).bind fun r19 =>
 some (r19.1, (r19.2.1, r19.2.2))
    | none => some ([], (0, false)) := by
  have hx : idx (W0 :: W1 :: rest) (0 : Int) = some W0 := rfl
  obtain ⟨r1, r2⟩ := rest_ok hs hW
  have hall : ∀ w ∈ (W0 :: W1 :: rest), w.length ≤ 1048576 := fun w hw => by
    have := wsp_mem s w (by rw [hW]; exact hw)
    omega
  have hl := words_loop (W0 :: W1 :: rest) (by simp only [List.length_cons]; omega) hall _ (fun _ => rfl) rest.length 2 [] (by simp only [List.length_cons]; omega) (Nat.zero_le _)
  have hl : loopC _ ((2 : Int), ([] : List Int)) = _ := hl
  unfold folioref16_read
  rw [words_eq s hs, Option.bind_some, hW, decide_eq_false (by simp only [List.length_cons]; omega), Bool.not_false, cond_true, hx, Option.bind_some, itoa_eq (by omega) (by omega), Option.bind_some, decide_eq_false (fun e => e h0), Option.bind_some, cond_false]
  show (loopC (RN (W0 :: W1 :: rest)) ((1 : Int), (0 : Int))).bind _ = _
  congr 1
  funext r9
  rw [hl, Option.bind_some]
  show (onSum (match fN rest with | some ns => _ | none => _) _ _) = _
  cases fN rest with
  | none => rfl
  | some ns => simp only [onSum, List.nil_append]
theorem rread_some (h0 : W0 = Lib.itoa a) {k : Int} (hk : 1 ≤ k ∧ k ≤ 15) (hn : nameS k = W1) : folioref16_read s a = some (match fN rest with
    | some ns => if (bytesS k ns).2 = true then (ints (bytesS k ns).1, (k, decide ((nextS (bytesS k ns).1 0).2 = 0 ∧ lineS (a, (nextS (bytesS k ns).1 0).1.2) = s))) else ([], (0, false))
    | none => ([], (0, false))) := by
  obtain ⟨r1, r2⟩ := rest_ok hs hW
  rw [rread_at hs hW ha h0, RN_some hk hn, Option.bind_some]
  cases hf : fN rest with
  | none => rfl
  | some ns =>
    obtain ⟨b1, b2⟩ := fN_bd rest ns hf
    dsimp only
    rw [bytes_eq hk ns (by omega) b2, Option.bind_some]
    dsimp only
    cases hb : (bytesS k ns).2 with
    | false => rfl
    | true =>
      rw [Bool.not_true, cond_false, if_pos rfl]
      obtain ⟨c1, c2⟩ := bytes_in ns hb
      have hlen : (bytesS k ns).1.length ≤ 1000 := by
        rw [c1]
        exact made_len (by rw [← c1]; exact hb) c2
      exact rfin_eq (bytesS k ns).1 s a k ha (by omega)
end
theorem rread_tot (s : List UInt8) (hs : s.length ≤ 1048576) (a : Int) (ha : 0 ≤ a ∧ a ≤ 1000000000000) : ∃ p k ok, folioref16_read s a = some (p, (k, ok)) ∧ (ok = true → IsL s a) := by
  cases hW : wsp s with
  | nil => exact absurd hW (wsp_ne s)
  | cons W0 t =>
    cases t with
    | nil =>
      refine ⟨[], 0, false, ?_, fun h => by cases h⟩
      unfold folioref16_read
      rw [words_eq s hs, Option.bind_some, hW]
      rfl
    | cons W1 rest =>
      by_cases h0 : W0 = Lib.itoa a
      · by_cases hno : ∀ k, 1 ≤ k → k ≤ 15 → nameS k ≠ W1
        · refine ⟨[], 0, false, ?_, fun h => by cases h⟩
          rw [rread_at hs hW ha h0, RN_none hno, Option.bind_some]
          cases fN rest with
          | none => rfl
          | some ns => rfl
        · have : ∃ k, (1 ≤ k ∧ k ≤ 15) ∧ nameS k = W1 := Classical.byContradiction fun hc => hno fun k h1 h2 e => hc ⟨k, ⟨h1, h2⟩, e⟩
          obtain ⟨k, hk, hn⟩ := this
          rw [rread_some hs hW ha h0 hk hn]
          refine ⟨_, _, _, rfl, ?_⟩
          cases hf : fN rest with
          | none => exact fun h => by cases h
          | some ns =>
            dsimp only
            cases hm : (bytesS k ns).2 with
            | false => exact fun h => by cases h
            | true =>
              rw [if_pos rfl]
              intro h
              have := of_decide_eq_true h
              exact fin_is this.1 this.2
      · exact ⟨[], 0, false, rread_no hs hW ha h0, fun h => by cases h⟩
theorem rread_line {i : Ins} (h : GoodI i) (a : Int) (ha : 0 ≤ a ∧ a ≤ 1000000000000) : folioref16_read (lineS (a, i.2)) a = some (ints (encI i), (i.2.2.1, true)) := by
  have hL : LaidI (a, i.2).2.2.1 (a, i.2).2.2.2.1 (a, i.2).2.2.2.2.1 := h.l
  have hW := wsp_line (i := (a, i.2)) hL
  have hlen := line_len h a ha
  rw [rread_some (by omega) hW ha rfl h.l.hk rfl, fN_itoa _ (nsOf_in hL h.t)]
  dsimp only
  have hm : madeS i.2.2.1 (nsOf (a, i.2)) = (encI i, true) := made_nsOf (i := (a, i.2)) hL
  have hb : bytesS i.2.2.1 (nsOf (a, i.2)) = (encI i, true) := by
    rw [← hm]
    exact bytes_made _ (nsOf_in hL h.t) (by rw [hm])
  rw [hb, if_pos rfl, next_good h, decide_eq_true ⟨rfl, rfl⟩]
/-- both read alike -/
theorem reads_eq (s : List UInt8) (hs : s.length ≤ 1048576) (a : Int) (ha : 0 ≤ a ∧ a ≤ 1000000000000) :
    (∃ i, GoodI i ∧ lineS (a, i.2) = s ∧ code_read s a = some (ints (encI i), true) ∧ folioref16_read s a = some (ints (encI i), (i.2.2.1, true))) ∨
    (∃ p q k, code_read s a = some (p, false) ∧ folioref16_read s a = some (q, (k, false))) := by
  by_cases h : IsL s a
  · obtain ⟨i, h1, h2⟩ := h
    refine .inl ⟨i, h1, h2, ?_, ?_⟩
    · rw [← h2]; exact read_line h1 a ha
    · rw [← h2]; exact rread_line h1 a ha
  · obtain ⟨p, ok, h1, h2⟩ := read_tot s hs a ha
    obtain ⟨q, k, ok2, h3, h4⟩ := rread_tot s hs a ha
    refine .inr ⟨p, q, k, ?_, ?_⟩
    · rw [h1]
      cases ok with
      | false => rfl
      | true => exact absurd (h2 rfl) h
    · rw [h3]
      cases ok2 with
      | false => rfl
      | true => exact absurd (h4 rfl) h
end Go.Fn
open Go Go.Lf
set_option maxRecDepth 10000
namespace Go.Fn
@[reducible] noncomputable def strconv_Itoa_c (_ : Nat) (a0 : Int) := Go.Fn.strconv_Itoa a0
theorem strconv_Itoa_le (n : Nat) (a0 : Int) : Go.Lf.Le (strconv_Itoa_c n a0) (strconv_Itoa a0) := Go.Lf.Le.refl
@[reducible] noncomputable def strconv_Atoi_c (_ : Nat) (a0 : List UInt8) := Go.Fn.strconv_Atoi a0
theorem strconv_Atoi_le (n : Nat) (a0 : List UInt8) : Go.Lf.Le (strconv_Atoi_c n a0) (strconv_Atoi a0) := Go.Lf.Le.refl
@[reducible] noncomputable def strings_Split_c (_ : Nat) (a0 : List UInt8) (a1 : List UInt8) := Go.Fn.strings_Split a0 a1
theorem strings_Split_le (n : Nat) (a0 : List UInt8) (a1 : List UInt8) : Go.Lf.Le (strings_Split_c n a0 a1) (strings_Split a0 a1) := Go.Lf.Le.refl
@[reducible] noncomputable def code_name_c (_ : Nat) (a0 : Int) := Go.Fn.code_name a0
theorem code_name_le (n : Nat) (a0 : Int) : Go.Lf.Le (code_name_c n a0) (code_name a0) := Go.Lf.Le.refl
noncomputable def foliolaw16_bytes_c (n : Nat) (a0 : List (Int)) : Option (List (Int)) :=
 ((Go.Lf.app (1 : Nat) ([] : List (Int)) a0)).bind fun r1 =>
 some r1
theorem foliolaw16_bytes_le (n : Nat) (a0 : List (Int)) : Go.Lf.Le (foliolaw16_bytes_c n a0) (foliolaw16_bytes a0) := by
  unfold foliolaw16_bytes_c foliolaw16_bytes
  repeat' first
    | with_reducible refine Go.Lf.Le.bind ?_ (fun _ => ?_)
    | with_reducible refine Go.Lf.Le.cond ?_ ?_
    | with_reducible refine Go.Lf.Le.loop (fun _ => ?_)
    | with_reducible refine Go.Lf.Le.onSum (fun _ => ?_) (fun _ => ?_)
    | with_reducible exact Go.Lf.Le.refl
noncomputable def octet_New_c (n : Nat) (a0 : List (Int)) : Option ((List (Int)) × ((Int) × ((Int) × (Unit)))) :=
 ((Go.Lf.made (1 : Nat) (0 : Int) (((List.length a0) : Nat) : Int) (((List.length a0) : Nat) : Int))).bind fun r1 =>
 some ((List.append (List.take (List.length r1) a0) (List.drop (List.length a0) r1)), ((0 : Int), ((0 : Int), ())))
theorem octet_New_le (n : Nat) (a0 : List (Int)) : Go.Lf.Le (octet_New_c n a0) (octet_New a0) := by
  unfold octet_New_c octet_New
  repeat' first
    | with_reducible refine Go.Lf.Le.bind ?_ (fun _ => ?_)
    | with_reducible refine Go.Lf.Le.cond ?_ ?_
    | with_reducible refine Go.Lf.Le.loop (fun _ => ?_)
    | with_reducible refine Go.Lf.Le.onSum (fun _ => ?_) (fun _ => ?_)
    | with_reducible exact Go.Lf.Le.refl
noncomputable def octet_Cursor__Err_c (n : Nat) (a0 : (List (Int)) × ((Int) × ((Int) × (Unit)))) : Option ((Int) × ((List (Int)) × ((Int) × ((Int) × (Unit))))) :=
 some (a0.2.2.1, a0)
theorem octet_Cursor__Err_le (n : Nat) (a0 : (List (Int)) × ((Int) × ((Int) × (Unit)))) : Go.Lf.Le (octet_Cursor__Err_c n a0) (octet_Cursor__Err a0) := by
  unfold octet_Cursor__Err_c octet_Cursor__Err
  repeat' first
    | with_reducible refine Go.Lf.Le.bind ?_ (fun _ => ?_)
    | with_reducible refine Go.Lf.Le.cond ?_ ?_
    | with_reducible refine Go.Lf.Le.loop (fun _ => ?_)
    | with_reducible refine Go.Lf.Le.onSum (fun _ => ?_) (fun _ => ?_)
    | with_reducible exact Go.Lf.Le.refl
noncomputable def octet_Cursor__fine_c (n : Nat) (a0 : (List (Int)) × ((Int) × ((Int) × (Unit)))) : Option ((Bool) × ((List (Int)) × ((Int) × ((Int) × (Unit))))) :=
 ((Go.Fn.octet_Cursor__Err_c n a0)).bind fun r1 =>
 some ((decide ((r1.1 : Int) = (0 : Int))), r1.2)
theorem octet_Cursor__fine_le (n : Nat) (a0 : (List (Int)) × ((Int) × ((Int) × (Unit)))) : Go.Lf.Le (octet_Cursor__fine_c n a0) (octet_Cursor__fine a0) := by
  unfold octet_Cursor__fine_c octet_Cursor__fine
  repeat' first
    | with_reducible exact Go.Fn.octet_Cursor__Err_le n _
    | with_reducible refine Go.Lf.Le.bind ?_ (fun _ => ?_)
    | with_reducible refine Go.Lf.Le.cond ?_ ?_
    | with_reducible refine Go.Lf.Le.loop (fun _ => ?_)
    | with_reducible refine Go.Lf.Le.onSum (fun _ => ?_) (fun _ => ?_)
    | with_reducible exact Go.Lf.Le.refl
noncomputable def octet_Cursor__Left_c (n : Nat) (a0 : (List (Int)) × ((Int) × ((Int) × (Unit)))) : Option ((Int) × ((List (Int)) × ((Int) × ((Int) × (Unit))))) :=
 some ((Go.IntKind.wrap .i64 ((((List.length a0.1) : Nat) : Int) - a0.2.1)), a0)
theorem octet_Cursor__Left_le (n : Nat) (a0 : (List (Int)) × ((Int) × ((Int) × (Unit)))) : Go.Lf.Le (octet_Cursor__Left_c n a0) (octet_Cursor__Left a0) := by
  unfold octet_Cursor__Left_c octet_Cursor__Left
  repeat' first
    | with_reducible refine Go.Lf.Le.bind ?_ (fun _ => ?_)
    | with_reducible refine Go.Lf.Le.cond ?_ ?_
    | with_reducible refine Go.Lf.Le.loop (fun _ => ?_)
    | with_reducible refine Go.Lf.Le.onSum (fun _ => ?_) (fun _ => ?_)
    | with_reducible exact Go.Lf.Le.refl
noncomputable def octet_Cursor__number_c (n : Nat) (a0 : (List (Int)) × ((Int) × ((Int) × (Unit)))) : Option ((Int) × ((Int) × ((Int) × ((List (Int)) × ((Int) × ((Int) × (Unit))))))) :=
 (Go.Lf.loopF n (σ := (Int) × ((Int) × ((List (Int)) × ((Int) × ((Int) × (Unit)))))) (κ := ((Int) × ((Int) × ((List (Int)) × ((Int) × ((Int) × (Unit)))))) ⊕ ((Int) × ((Int) × ((Int) × ((List (Int)) × ((Int) × ((Int) × (Unit)))))))) (fun z1 =>
     ((Go.Fn.octet_Cursor__Left_c n z1.2.2)).bind fun r2 =>
     bif (decide (z1.1 < r2.1)) then ((Go.Lf.chk (List.length r2.2.1) (Go.IntKind.wrap .i64 (r2.2.2.1 + z1.1)))).bind fun r3 =>
     ((Go.Lf.nth r2.2.1 r3)).bind fun r4 =>
     (bif (!(decide ((9 : Int) < z1.1))) then bif (decide ((z1.1 : Int) = (9 : Int))) then some ((decide ((1 : Int) < (Go.IntKind.wrap .u64 r4))), r2.2)
       else some (false, r2.2)
       else some (true, r2.2)).bind fun r5 =>
     bif r5.1 then some (.inr (.inr ((0 : Int), ((0 : Int), ((31 : Int), r5.2)))))
     else ((Go.Lf.nn (Go.IntKind.wrap .i64 ((7 : Int) * z1.1)) (Go.IntKind.wrap .u64 ((Go.Lf.bits .and .u64 (Go.IntKind.wrap .u64 r4) (127 : Int)) * ((2 : Int) ^ (Min.min (Int.toNat (Go.IntKind.wrap .i64 ((7 : Int) * z1.1))) (64 : Nat))))))).bind fun r6 =>
     bif (decide ((Go.IntKind.wrap .u64 r4) < (128 : Int))) then (bif (decide (((Go.IntKind.wrap .u64 r4) : Int) = (0 : Int))) then some ((decide ((0 : Int) < z1.1)), r5.2)
       else some (false, r5.2)).bind fun r7 =>
     bif r7.1 then some (.inr (.inr ((0 : Int), ((0 : Int), ((31 : Int), r7.2)))))
     else some (.inr (.inl (z1.1, ((Go.Lf.bits .or .u64 z1.2.1 r6), r7.2))))
     else some (.inl ((Go.IntKind.wrap .i64 (z1.1 + (1 : Int))), ((Go.Lf.bits .or .u64 z1.2.1 r6), r5.2)))
     else some (.inr (.inl (z1.1, (z1.2.1, r2.2))))) ((0 : Int), ((0 : Int), a0)) : Option (((Int) × ((Int) × ((List (Int)) × ((Int) × ((Int) × (Unit)))))) ⊕ ((Int) × ((Int) × ((Int) × ((List (Int)) × ((Int) × ((Int) × (Unit))))))))).bind fun r8 =>
 Go.Lf.onSum r8 (fun a9 =>
 ((Go.Fn.octet_Cursor__Left_c n a9.2.2)).bind fun r10 =>
 bif (decide (r10.1 ≤ a9.1)) then some ((0 : Int), ((0 : Int), ((30 : Int), r10.2)))
 else some (a9.2.1, ((Go.IntKind.wrap .i64 (a9.1 + (1 : Int))), ((0 : Int), r10.2)))) (fun b11 =>
 some (b11.1, (b11.2.1, (b11.2.2.1, b11.2.2.2))))
theorem octet_Cursor__number_le (n : Nat) (a0 : (List (Int)) × ((Int) × ((Int) × (Unit)))) : Go.Lf.Le (octet_Cursor__number_c n a0) (octet_Cursor__number a0) := by
  unfold octet_Cursor__number_c octet_Cursor__number
  repeat' first
    | with_reducible exact Go.Fn.octet_Cursor__Left_le n _
    | with_reducible refine Go.Lf.Le.bind ?_ (fun _ => ?_)
    | with_reducible refine Go.Lf.Le.cond ?_ ?_
    | with_reducible refine Go.Lf.Le.loop (fun _ => ?_)
    | with_reducible refine Go.Lf.Le.onSum (fun _ => ?_) (fun _ => ?_)
    | with_reducible exact Go.Lf.Le.refl
noncomputable def octet_Cursor__Fail_c (n : Nat) (a0 : (List (Int)) × ((Int) × ((Int) × (Unit)))) (a1 : Int) : Option ((List (Int)) × ((Int) × ((Int) × (Unit)))) :=
 bif (decide ((a0.2.2.1 : Int) = (0 : Int))) then some (a0.1, (a0.2.1, (a1, a0.2.2.2)))
 else some a0
theorem octet_Cursor__Fail_le (n : Nat) (a0 : (List (Int)) × ((Int) × ((Int) × (Unit)))) (a1 : Int) : Go.Lf.Le (octet_Cursor__Fail_c n a0 a1) (octet_Cursor__Fail a0 a1) := by
  unfold octet_Cursor__Fail_c octet_Cursor__Fail
  repeat' first
    | with_reducible refine Go.Lf.Le.bind ?_ (fun _ => ?_)
    | with_reducible refine Go.Lf.Le.cond ?_ ?_
    | with_reducible refine Go.Lf.Le.loop (fun _ => ?_)
    | with_reducible refine Go.Lf.Le.onSum (fun _ => ?_) (fun _ => ?_)
    | with_reducible exact Go.Lf.Le.refl
noncomputable def octet_Cursor__Uint_c (n : Nat) (a0 : (List (Int)) × ((Int) × ((Int) × (Unit)))) : Option ((Int) × ((List (Int)) × ((Int) × ((Int) × (Unit))))) :=
 ((Go.Fn.octet_Cursor__fine_c n a0)).bind fun r1 =>
 bif (!r1.1) then some ((0 : Int), r1.2)
 else ((Go.Fn.octet_Cursor__number_c n r1.2)).bind fun r2 =>
 bif (decide ((r2.2.2.1 : Int) ≠ (0 : Int))) then ((Go.Fn.octet_Cursor__Fail_c n r2.2.2.2 r2.2.2.1)).bind fun r3 =>
 some ((0 : Int), r3)
 else some (r2.1, (r2.2.2.2.1, ((Go.IntKind.wrap .i64 (r2.2.2.2.2.1 + r2.2.1)), r2.2.2.2.2.2)))
theorem octet_Cursor__Uint_le (n : Nat) (a0 : (List (Int)) × ((Int) × ((Int) × (Unit)))) : Go.Lf.Le (octet_Cursor__Uint_c n a0) (octet_Cursor__Uint a0) := by
  unfold octet_Cursor__Uint_c octet_Cursor__Uint
  repeat' first
    | with_reducible exact Go.Fn.octet_Cursor__Fail_le n _ _
    | with_reducible exact Go.Fn.octet_Cursor__fine_le n _
    | with_reducible exact Go.Fn.octet_Cursor__number_le n _
    | with_reducible refine Go.Lf.Le.bind ?_ (fun _ => ?_)
    | with_reducible refine Go.Lf.Le.cond ?_ ?_
    | with_reducible refine Go.Lf.Le.loop (fun _ => ?_)
    | with_reducible refine Go.Lf.Le.onSum (fun _ => ?_) (fun _ => ?_)
    | with_reducible exact Go.Lf.Le.refl
noncomputable def octet_Cursor__At_c (n : Nat) (a0 : (List (Int)) × ((Int) × ((Int) × (Unit)))) : Option (Int) :=
 some a0.2.1
theorem octet_Cursor__At_le (n : Nat) (a0 : (List (Int)) × ((Int) × ((Int) × (Unit)))) : Go.Lf.Le (octet_Cursor__At_c n a0) (octet_Cursor__At a0) := by
  unfold octet_Cursor__At_c octet_Cursor__At
  repeat' first
    | with_reducible refine Go.Lf.Le.bind ?_ (fun _ => ?_)
    | with_reducible refine Go.Lf.Le.cond ?_ ?_
    | with_reducible refine Go.Lf.Le.loop (fun _ => ?_)
    | with_reducible refine Go.Lf.Le.onSum (fun _ => ?_) (fun _ => ?_)
    | with_reducible exact Go.Lf.Le.refl
noncomputable def code_finish_c (n : Nat) (a0 : List (Int)) (a1 : (Int) × ((Int) × ((Int) × ((Int) × ((List (Int)) × (Unit)))))) (a2 : Int) : Option (((Int) × ((Int) × ((Int) × ((Int) × ((List (Int)) × (Unit)))))) × (Int)) :=
 (bif (decide ((a1.2.2.1 : Int) = (1 : Int))) then bif (decide ((16383 : Int) < a2)) then some (.inl ((161 : Int), ((0 : Int), ((0 : Int), ((0 : Int), ((0 : Int), (([] : List (Int)), ())))))))
   else some (.inr (((0 : Int), ((0 : Int), ((0 : Int), ((0 : Int), (([] : List (Int)), ()))))), (a1.1, (a1.2.1, (a1.2.2.1, ((Go.IntKind.wrap .i64 (a2 + (1 : Int))), a1.2.2.2.2))))))
   else (bif (decide ((a1.2.2.1 : Int) = (2 : Int))) then some ((decide ((a1.2.2.1 : Int) = (2 : Int))), (((0 : Int), ((0 : Int), ((0 : Int), ((0 : Int), (([] : List (Int)), ()))))), a1))
     else bif (decide ((a1.2.2.1 : Int) = (3 : Int))) then some ((decide ((a1.2.2.1 : Int) = (3 : Int))), (((0 : Int), ((0 : Int), ((0 : Int), ((0 : Int), (([] : List (Int)), ()))))), a1))
     else bif (decide ((a1.2.2.1 : Int) = (4 : Int))) then some ((decide ((a1.2.2.1 : Int) = (4 : Int))), (((0 : Int), ((0 : Int), ((0 : Int), ((0 : Int), (([] : List (Int)), ()))))), a1))
     else some ((decide ((a1.2.2.1 : Int) = (10 : Int))), (((0 : Int), ((0 : Int), ((0 : Int), ((0 : Int), (([] : List (Int)), ()))))), a1))).bind fun r1 =>
   bif r1.1 then some (.inr (r1.2.1, (r1.2.2.1, (r1.2.2.2.1, (r1.2.2.2.2.1, (a2, r1.2.2.2.2.2.2))))))
   else bif (decide ((a1.2.2.1 : Int) = (8 : Int))) then some (.inr (r1.2.1, (r1.2.2.1, (r1.2.2.2.1, (r1.2.2.2.2.1, ((Go.IntKind.wrap .i64 (a2 - (1 : Int))), r1.2.2.2.2.2.2))))))
   else bif (decide ((a1.2.2.1 : Int) = (12 : Int))) then bif (decide ((16 : Int) ≤ a2)) then some (.inl ((161 : Int), ((0 : Int), ((0 : Int), ((0 : Int), ((0 : Int), (([] : List (Int)), ())))))))
   else bif (decide ((Go.IntKind.wrap .i64 ((((List.length a0) : Nat) : Int) - (Go.IntKind.wrap .i64 (r1.2.2.1 + r1.2.2.2.1)))) < (Go.IntKind.wrap .i64 (a2 + (1 : Int))))) then some (.inl ((30 : Int), ((0 : Int), ((0 : Int), ((0 : Int), ((0 : Int), (([] : List (Int)), ())))))))
   else ((Go.Lf.sub a0 (Go.IntKind.wrap .i64 (r1.2.2.1 + r1.2.2.2.1)) (Go.IntKind.wrap .i64 ((Go.IntKind.wrap .i64 ((Go.IntKind.wrap .i64 (r1.2.2.1 + r1.2.2.2.1)) + a2)) + (1 : Int))))).bind fun r2 =>
   (Go.Lf.loopF n (σ := (Int) × (((Int) × ((Int) × ((Int) × ((Int) × ((List (Int)) × (Unit)))))) × ((Int) × ((Int) × ((Int) × ((Int) × ((List (Int)) × (Unit)))))))) (κ := ((Int) × ((Int) × ((Int) × ((Int) × ((List (Int)) × (Unit)))))) × ((Int) × ((Int) × ((Int) × ((Int) × ((List (Int)) × (Unit))))))) (fun z3 =>
       bif (decide (z3.1 < (((List.length r2) : Nat) : Int))) then ((Go.Lf.idx r2 z3.1)).bind fun r4 =>
       ((Go.Lf.app (8 : Nat) z3.2.1.2.2.2.2.1 ((Go.IntKind.wrap .i64 r4) :: ([] : List (Int))))).bind fun r5 =>
       some (.inl ((Go.IntKind.wrap .i64 (z3.1 + (1 : Int))), ((z3.2.1.1, (z3.2.1.2.1, (z3.2.1.2.2.1, (z3.2.1.2.2.2.1, (r5, z3.2.1.2.2.2.2.2))))), z3.2.2)))
       else some (.inr (z3.2.2, z3.2.1))) ((0 : Int), (r1.2.2, r1.2.1)) : Option (((Int) × ((Int) × ((Int) × ((Int) × ((List (Int)) × (Unit)))))) × ((Int) × ((Int) × ((Int) × ((Int) × ((List (Int)) × (Unit)))))))).bind fun r6 =>
   some (.inr (r6.1, (r6.2.1, ((Go.IntKind.wrap .i64 (r6.2.2.1 + (Go.IntKind.wrap .i64 (a2 + (1 : Int))))), r6.2.2.2))))
   else bif (decide ((a2 : Int) ≠ (0 : Int))) then some (.inl ((161 : Int), ((0 : Int), ((0 : Int), ((0 : Int), ((0 : Int), (([] : List (Int)), ())))))))
   else some (.inr (r1.2.1, r1.2.2)) : Option (((Int) × ((Int) × ((Int) × ((Int) × ((Int) × ((List (Int)) × (Unit))))))) ⊕ (((Int) × ((Int) × ((Int) × ((Int) × ((List (Int)) × (Unit)))))) × ((Int) × ((Int) × ((Int) × ((Int) × ((List (Int)) × (Unit))))))))).bind fun r7 =>
 Go.Lf.onSum r7 (fun a8 =>
 some (a8.2, a8.1)) (fun b9 =>
 some ((b9.2.1, (b9.2.2.1, (b9.2.2.2.1, (b9.2.2.2.2.1, (b9.2.2.2.2.2.1, b9.2.2.2.2.2.2))))), (0 : Int)))
theorem code_finish_le (n : Nat) (a0 : List (Int)) (a1 : (Int) × ((Int) × ((Int) × ((Int) × ((List (Int)) × (Unit)))))) (a2 : Int) : Go.Lf.Le (code_finish_c n a0 a1 a2) (code_finish a0 a1 a2) := by
  unfold code_finish_c code_finish
  repeat' first
    | with_reducible refine Go.Lf.Le.bind ?_ (fun _ => ?_)
    | with_reducible refine Go.Lf.Le.cond ?_ ?_
    | with_reducible refine Go.Lf.Le.loop (fun _ => ?_)
    | with_reducible refine Go.Lf.Le.onSum (fun _ => ?_) (fun _ => ?_)
    | with_reducible exact Go.Lf.Le.refl
noncomputable def code_Next_c (n : Nat) (a0 : List (Int)) (a1 : Int) : Option (((Int) × ((Int) × ((Int) × ((Int) × ((List (Int)) × (Unit)))))) × (Int)) :=
 (bif (!(decide (a1 < (0 : Int)))) then some ((decide ((((List.length a0) : Nat) : Int) ≤ a1)), ((0 : Int), ((0 : Int), ((0 : Int), ((0 : Int), (([] : List (Int)), ()))))))
   else some (true, ((0 : Int), ((0 : Int), ((0 : Int), ((0 : Int), (([] : List (Int)), ()))))))).bind fun r1 =>
 bif r1.1 then some (((0 : Int), ((0 : Int), ((0 : Int), ((0 : Int), (([] : List (Int)), ()))))), (1 : Int))
 else ((Go.Lf.idx a0 a1)).bind fun r2 =>
 ((Go.Lf.nn (4 : Int) (Int.fdiv r2 ((2 : Int) ^ (Min.min (Int.toNat (4 : Int)) (8 : Nat)))))).bind fun r3 =>
 ((Go.Lf.idx a0 a1)).bind fun r4 =>
 bif (decide (((Go.IntKind.wrap .i64 r3) : Int) = (0 : Int))) then some (((0 : Int), ((0 : Int), ((0 : Int), ((0 : Int), (([] : List (Int)), ()))))), (160 : Int))
 else (bif (decide (((Go.IntKind.wrap .i64 (Go.Lf.bits .and .u8 r4 (15 : Int))) : Int) = (15 : Int))) then ((Go.Lf.sub a0 (Go.IntKind.wrap .i64 (a1 + (1 : Int))) (((List.length a0) : Nat) : Int))).bind fun r5 =>
   ((Go.Fn.octet_New_c n r5)).bind fun r6 =>
   ((Go.Fn.octet_Cursor__Uint_c n r6)).bind fun r7 =>
   ((Go.Fn.octet_Cursor__Err_c n r7.2)).bind fun r8 =>
   bif (decide ((r8.1 : Int) ≠ (0 : Int))) then some (.inl (r8.1, ((0 : Int), ((0 : Int), ((0 : Int), ((0 : Int), (([] : List (Int)), ())))))))
   else bif (decide ((2147483632 : Int) < r7.1)) then some (.inl ((161 : Int), ((0 : Int), ((0 : Int), ((0 : Int), ((0 : Int), (([] : List (Int)), ())))))))
   else ((Go.Fn.octet_Cursor__At_c n (r8.2.1, r8.2.2))).bind fun r9 =>
   some (.inr ((Go.IntKind.wrap .i64 ((Go.IntKind.wrap .i64 r7.1) + (15 : Int))), (r1.2, (a1, ((Go.IntKind.wrap .i64 ((1 : Int) + r9)), ((Go.IntKind.wrap .i64 r3), ((0 : Int), (([] : List (Int)), ()))))))))
   else some (.inr ((Go.IntKind.wrap .i64 (Go.Lf.bits .and .u8 r4 (15 : Int))), (r1.2, (a1, ((1 : Int), ((Go.IntKind.wrap .i64 r3), ((0 : Int), (([] : List (Int)), ())))))))) : Option (((Int) × ((Int) × ((Int) × ((Int) × ((Int) × ((List (Int)) × (Unit))))))) ⊕ ((Int) × (((Int) × ((Int) × ((Int) × ((Int) × ((List (Int)) × (Unit)))))) × ((Int) × ((Int) × ((Int) × ((Int) × ((List (Int)) × (Unit)))))))))).bind fun r10 =>
 Go.Lf.onSum r10 (fun a11 =>
 some (a11.2, a11.1)) (fun b12 =>
 ((Go.Fn.code_finish_c n a0 b12.2.2 b12.1)).bind fun r13 =>
 some (r13.1, r13.2))
theorem code_Next_le (n : Nat) (a0 : List (Int)) (a1 : Int) : Go.Lf.Le (code_Next_c n a0 a1) (code_Next a0 a1) := by
  unfold code_Next_c code_Next
  repeat' first
    | with_reducible exact Go.Fn.code_finish_le n _ _ _
    | with_reducible exact Go.Fn.octet_Cursor__At_le n _
    | with_reducible exact Go.Fn.octet_Cursor__Err_le n _
    | with_reducible exact Go.Fn.octet_Cursor__Uint_le n _
    | with_reducible exact Go.Fn.octet_New_le n _
    | with_reducible refine Go.Lf.Le.bind ?_ (fun _ => ?_)
    | with_reducible refine Go.Lf.Le.cond ?_ ?_
    | with_reducible refine Go.Lf.Le.loop (fun _ => ?_)
    | with_reducible refine Go.Lf.Le.onSum (fun _ => ?_) (fun _ => ?_)
    | with_reducible exact Go.Lf.Le.refl
noncomputable def code_Instrs_c (n : Nat) (a0 : List (Int)) : Option ((List ((Int) × ((Int) × ((Int) × ((Int) × ((List (Int)) × (Unit))))))) × ((Int) × (Int))) :=
 bif (decide ((1048576 : Int) < (((List.length a0) : Nat) : Int))) then some (([] : List ((Int) × ((Int) × ((Int) × ((Int) × ((List (Int)) × (Unit))))))), ((0 : Int), (2 : Int)))
 else (Go.Lf.loopF n (σ := (Int) × (List ((Int) × ((Int) × ((Int) × ((Int) × ((List (Int)) × (Unit)))))))) (κ := (Unit) ⊕ ((List ((Int) × ((Int) × ((Int) × ((Int) × ((List (Int)) × (Unit))))))) × ((Int) × (Int)))) (fun z1 =>
     bif (decide (z1.1 < (((List.length a0) : Nat) : Int))) then ((Go.Fn.code_Next_c n a0 z1.1)).bind fun r2 =>
     bif (decide ((r2.2 : Int) ≠ (0 : Int))) then some (.inr (.inr (([] : List ((Int) × ((Int) × ((Int) × ((Int) × ((List (Int)) × (Unit))))))), (z1.1, r2.2))))
     else ((Go.Lf.app (56 : Nat) z1.2 (r2.1 :: ([] : List ((Int) × ((Int) × ((Int) × ((Int) × ((List (Int)) × (Unit)))))))))).bind fun r3 =>
     bif (decide ((r2.1.2.2.1 : Int) = (15 : Int))) then bif (decide ((Go.IntKind.wrap .i64 (z1.1 + r2.1.2.1)) < (((List.length a0) : Nat) : Int))) then some (.inr (.inr (([] : List ((Int) × ((Int) × ((Int) × ((Int) × ((List (Int)) × (Unit))))))), ((Go.IntKind.wrap .i64 (z1.1 + r2.1.2.1)), (162 : Int)))))
     else some (.inr (.inr (r3, ((0 : Int), (0 : Int)))))
     else some (.inl ((Go.IntKind.wrap .i64 (z1.1 + r2.1.2.1)), r3))
     else some (.inr (.inl ()))) ((0 : Int), ([] : List ((Int) × ((Int) × ((Int) × ((Int) × ((List (Int)) × (Unit)))))))) : Option ((Unit) ⊕ ((List ((Int) × ((Int) × ((Int) × ((Int) × ((List (Int)) × (Unit))))))) × ((Int) × (Int))))).bind fun r4 =>
 Go.Lf.onSum r4 (fun a5 =>
 some (([] : List ((Int) × ((Int) × ((Int) × ((Int) × ((List (Int)) × (Unit))))))), ((((List.length a0) : Nat) : Int), (162 : Int)))) (fun b6 =>
 some (b6.1, (b6.2.1, b6.2.2)))
theorem code_Instrs_le (n : Nat) (a0 : List (Int)) : Go.Lf.Le (code_Instrs_c n a0) (code_Instrs a0) := by
  unfold code_Instrs_c code_Instrs
  repeat' first
    | with_reducible exact Go.Fn.code_Next_le n _ _
    | with_reducible refine Go.Lf.Le.bind ?_ (fun _ => ?_)
    | with_reducible refine Go.Lf.Le.cond ?_ ?_
    | with_reducible refine Go.Lf.Le.loop (fun _ => ?_)
    | with_reducible refine Go.Lf.Le.onSum (fun _ => ?_) (fun _ => ?_)
    | with_reducible exact Go.Lf.Le.refl
noncomputable def code_numbered_c (n : Nat) (a0 : Int) : Option (Bool) :=
 (bif (decide ((a0 : Int) = (1 : Int))) then some (decide ((a0 : Int) = (1 : Int)))
   else bif (decide ((a0 : Int) = (2 : Int))) then some (decide ((a0 : Int) = (2 : Int)))
   else bif (decide ((a0 : Int) = (3 : Int))) then some (decide ((a0 : Int) = (3 : Int)))
   else bif (decide ((a0 : Int) = (4 : Int))) then some (decide ((a0 : Int) = (4 : Int)))
   else bif (decide ((a0 : Int) = (8 : Int))) then some (decide ((a0 : Int) = (8 : Int)))
   else some (decide ((a0 : Int) = (10 : Int)))).bind fun r1 =>
 bif r1 then some true
 else some false
theorem code_numbered_le (n : Nat) (a0 : Int) : Go.Lf.Le (code_numbered_c n a0) (code_numbered a0) := by
  unfold code_numbered_c code_numbered
  repeat' first
    | with_reducible refine Go.Lf.Le.bind ?_ (fun _ => ?_)
    | with_reducible refine Go.Lf.Le.cond ?_ ?_
    | with_reducible refine Go.Lf.Le.loop (fun _ => ?_)
    | with_reducible refine Go.Lf.Le.onSum (fun _ => ?_) (fun _ => ?_)
    | with_reducible exact Go.Lf.Le.refl
noncomputable def code_line_c (n : Nat) (a0 : (Int) × ((Int) × ((Int) × ((Int) × ((List (Int)) × (Unit)))))) : Option (List (UInt8)) :=
 ((Go.Fn.strconv_Itoa_c n a0.1)).bind fun r1 =>
 ((Go.Lf.cat r1 ((32 : UInt8) :: ([] : List (UInt8))))).bind fun r2 =>
 ((Go.Fn.code_name_c n a0.2.2.1)).bind fun r3 =>
 ((Go.Lf.cat r2 r3)).bind fun r4 =>
 (((Go.Fn.code_numbered_c n a0.2.2.1)).bind fun r5 =>
   bif r5 then ((Go.Fn.strconv_Itoa_c n a0.2.2.2.1)).bind fun r6 =>
   ((Go.Lf.cat ((32 : UInt8) :: ([] : List (UInt8))) r6)).bind fun r7 =>
   ((Go.Lf.cat r4 r7)).bind fun r8 =>
   some (r8, a0)
   else some (r4, a0)).bind fun r9 =>
 (Go.Lf.loopF n (σ := (Int) × (List (UInt8))) (κ := List (UInt8)) (fun z10 =>
     bif (decide (z10.1 < (((List.length r9.2.2.2.2.2.1) : Nat) : Int))) then ((Go.Lf.idx r9.2.2.2.2.2.1 z10.1)).bind fun r11 =>
     ((Go.Fn.strconv_Itoa_c n r11)).bind fun r12 =>
     ((Go.Lf.cat ((32 : UInt8) :: ([] : List (UInt8))) r12)).bind fun r13 =>
     ((Go.Lf.cat z10.2 r13)).bind fun r14 =>
     some (.inl ((Go.IntKind.wrap .i64 (z10.1 + (1 : Int))), r14))
     else some (.inr z10.2)) ((0 : Int), r9.1) : Option (List (UInt8))).bind fun r15 =>
 some r15
theorem code_line_le (n : Nat) (a0 : (Int) × ((Int) × ((Int) × ((Int) × ((List (Int)) × (Unit)))))) : Go.Lf.Le (code_line_c n a0) (code_line a0) := by
  unfold code_line_c code_line
  repeat' first
    | with_reducible exact Go.Fn.code_name_le n _
    | with_reducible exact Go.Fn.code_numbered_le n _
    | with_reducible exact Go.Fn.strconv_Itoa_le n _
    | with_reducible refine Go.Lf.Le.bind ?_ (fun _ => ?_)
    | with_reducible refine Go.Lf.Le.cond ?_ ?_
    | with_reducible refine Go.Lf.Le.loop (fun _ => ?_)
    | with_reducible refine Go.Lf.Le.onSum (fun _ => ?_) (fun _ => ?_)
    | with_reducible exact Go.Lf.Le.refl
noncomputable def code_List_c (n : Nat) (a0 : List (Int)) : Option ((List (List (UInt8))) × ((Int) × (Int))) :=
 ((Go.Fn.code_Instrs_c n a0)).bind fun r1 =>
 bif (decide ((r1.2.2 : Int) ≠ (0 : Int))) then some (([] : List (List (UInt8))), (r1.2.1, r1.2.2))
 else (Go.Lf.loopF n (σ := (Int) × (List (List (UInt8)))) (κ := List (List (UInt8))) (fun z2 =>
     bif (decide (z2.1 < (((List.length r1.1) : Nat) : Int))) then ((Go.Lf.idx r1.1 z2.1)).bind fun r3 =>
     ((Go.Fn.code_line_c n r3)).bind fun r4 =>
     ((Go.Lf.app (16 : Nat) z2.2 (r4 :: ([] : List (List (UInt8)))))).bind fun r5 =>
     some (.inl ((Go.IntKind.wrap .i64 (z2.1 + (1 : Int))), r5))
     else some (.inr z2.2)) ((0 : Int), ([] : List (List (UInt8)))) : Option (List (List (UInt8)))).bind fun r6 =>
 some (r6, ((0 : Int), (0 : Int)))
theorem code_List_le (n : Nat) (a0 : List (Int)) : Go.Lf.Le (code_List_c n a0) (code_List a0) := by
  unfold code_List_c code_List
  repeat' first
    | with_reducible exact Go.Fn.code_Instrs_le n _
    | with_reducible exact Go.Fn.code_line_le n _
    | with_reducible refine Go.Lf.Le.bind ?_ (fun _ => ?_)
    | with_reducible refine Go.Lf.Le.cond ?_ ?_
    | with_reducible refine Go.Lf.Le.loop (fun _ => ?_)
    | with_reducible refine Go.Lf.Le.onSum (fun _ => ?_) (fun _ => ?_)
    | with_reducible exact Go.Lf.Le.refl
noncomputable def folioref16_Take_c (n : Nat) (a0 : List (Int)) (a1 : Int) : Option ((Int) × ((Int) × (Int))) :=
 (Go.Lf.loopF n (σ := Int) (κ := Int) (fun z1 =>
     (bif (decide ((Go.IntKind.wrap .i64 (a1 + z1)) < (((List.length a0) : Nat) : Int))) then ((Go.Lf.idx a0 (Go.IntKind.wrap .i64 (a1 + z1)))).bind fun r2 =>
       bif (decide ((128 : Int) ≤ r2)) then some (decide (z1 < (10 : Int)))
       else some false
       else some false).bind fun r3 =>
     bif r3 then some (.inl (Go.IntKind.wrap .i64 (z1 + (1 : Int))))
     else some (.inr z1)) (0 : Int) : Option (Int)).bind fun r4 =>
 bif (decide ((r4 : Int) = (10 : Int))) then some ((0 : Int), ((0 : Int), (31 : Int)))
 else bif (decide ((((List.length a0) : Nat) : Int) ≤ (Go.IntKind.wrap .i64 (a1 + r4)))) then some ((0 : Int), ((0 : Int), (30 : Int)))
 else (bif (decide ((0 : Int) < r4)) then ((Go.Lf.idx a0 (Go.IntKind.wrap .i64 (a1 + r4)))).bind fun r5 =>
   bif (!(decide ((r5 : Int) = (0 : Int)))) then bif (decide ((r4 : Int) = (9 : Int))) then ((Go.Lf.idx a0 (Go.IntKind.wrap .i64 (a1 + r4)))).bind fun r6 =>
   some (decide ((1 : Int) < r6))
   else some false
   else some true
   else bif (decide ((r4 : Int) = (9 : Int))) then ((Go.Lf.idx a0 (Go.IntKind.wrap .i64 (a1 + r4)))).bind fun r7 =>
   some (decide ((1 : Int) < r7))
   else some false).bind fun r8 =>
 bif r8 then some ((0 : Int), ((0 : Int), (31 : Int)))
 else (Go.Lf.loopF n (σ := (Int) × (Int)) (κ := Int) (fun z9 =>
     bif (decide ((0 : Int) ≤ z9.1)) then ((Go.Lf.idx a0 (Go.IntKind.wrap .i64 (a1 + z9.1)))).bind fun r10 =>
     ((Go.Lf.nz (128 : Int) (Int.tmod r10 (128 : Int)))).bind fun r11 =>
     some (.inl ((Go.IntKind.wrap .i64 (z9.1 - (1 : Int))), (Go.IntKind.wrap .u64 ((Go.IntKind.wrap .u64 (z9.2 * (128 : Int))) + (Go.IntKind.wrap .u64 r11)))))
     else some (.inr z9.2)) (r4, (0 : Int)) : Option (Int)).bind fun r12 =>
 some (r12, ((Go.IntKind.wrap .i64 (r4 + (1 : Int))), (0 : Int)))
theorem folioref16_Take_le (n : Nat) (a0 : List (Int)) (a1 : Int) : Go.Lf.Le (folioref16_Take_c n a0 a1) (folioref16_Take a0 a1) := by
  unfold folioref16_Take_c folioref16_Take
  repeat' first
    | with_reducible refine Go.Lf.Le.bind ?_ (fun _ => ?_)
    | with_reducible refine Go.Lf.Le.cond ?_ ?_
    | with_reducible refine Go.Lf.Le.loop (fun _ => ?_)
    | with_reducible refine Go.Lf.Le.onSum (fun _ => ?_) (fun _ => ?_)
    | with_reducible exact Go.Lf.Le.refl
noncomputable def folioref16_Next_c (n : Nat) (a0 : List (Int)) (a1 : Int) : Option (((Int) × ((Int) × ((Int) × ((Int) × ((List (Int)) × (Unit)))))) × (Int)) :=
 (bif (!(decide (a1 < (0 : Int)))) then some ((decide ((((List.length a0) : Nat) : Int) ≤ a1)), ((0 : Int), ((0 : Int), ((0 : Int), ((0 : Int), (([] : List (Int)), ()))))))
   else some (true, ((0 : Int), ((0 : Int), ((0 : Int), ((0 : Int), (([] : List (Int)), ()))))))).bind fun r1 =>
 bif r1.1 then some (((0 : Int), ((0 : Int), ((0 : Int), ((0 : Int), (([] : List (Int)), ()))))), (1 : Int))
 else ((Go.Lf.idx a0 a1)).bind fun r2 =>
 ((Go.Lf.nz (16 : Int) (Go.IntKind.wrap .u8 (Int.tdiv r2 (16 : Int))))).bind fun r3 =>
 ((Go.Lf.idx a0 a1)).bind fun r4 =>
 ((Go.Lf.nz (16 : Int) (Int.tmod r4 (16 : Int)))).bind fun r5 =>
 bif (decide (((Go.IntKind.wrap .i64 r3) : Int) = (0 : Int))) then some (((0 : Int), ((0 : Int), ((0 : Int), ((0 : Int), (([] : List (Int)), ()))))), (160 : Int))
 else (bif (decide (((Go.IntKind.wrap .u64 r5) : Int) = (15 : Int))) then ((Go.Fn.folioref16_Take_c n a0 (Go.IntKind.wrap .i64 (a1 + (1 : Int))))).bind fun r6 =>
   bif (decide ((r6.2.2 : Int) ≠ (0 : Int))) then some (.inl (r6.2.2, ((0 : Int), ((0 : Int), ((0 : Int), ((0 : Int), (([] : List (Int)), ())))))))
   else bif (decide ((2147483647 : Int) < r6.1)) then some (.inl ((161 : Int), ((0 : Int), ((0 : Int), ((0 : Int), ((0 : Int), (([] : List (Int)), ())))))))
   else some (.inr ((Go.IntKind.wrap .u64 (r6.1 + (15 : Int))), ((Go.IntKind.wrap .i64 ((1 : Int) + r6.2.1)), r1.2)))
   else some (.inr ((Go.IntKind.wrap .u64 r5), ((1 : Int), r1.2))) : Option (((Int) × ((Int) × ((Int) × ((Int) × ((Int) × ((List (Int)) × (Unit))))))) ⊕ ((Int) × ((Int) × ((Int) × ((Int) × ((Int) × ((Int) × ((List (Int)) × (Unit)))))))))).bind fun r7 =>
 Go.Lf.onSum r7 (fun a8 =>
 some (a8.2, a8.1)) (fun b9 =>
 bif (decide ((2147483647 : Int) < b9.1)) then some (((0 : Int), ((0 : Int), ((0 : Int), ((0 : Int), (([] : List (Int)), ()))))), (161 : Int))
 else (bif (decide (((Go.IntKind.wrap .i64 r3) : Int) = (1 : Int))) then bif (decide ((16383 : Int) < b9.1)) then some (.inl ((161 : Int), ((0 : Int), ((0 : Int), ((0 : Int), ((0 : Int), (([] : List (Int)), ())))))))
   else some (.inr (b9.2.2, (a1, (b9.2.1, ((Go.IntKind.wrap .i64 r3), ((Go.IntKind.wrap .i64 ((Go.IntKind.wrap .i64 b9.1) + (1 : Int))), (([] : List (Int)), ())))))))
   else (bif (decide (((Go.IntKind.wrap .i64 r3) : Int) = (2 : Int))) then some ((decide (((Go.IntKind.wrap .i64 r3) : Int) = (2 : Int))), (b9.2.2, (a1, (b9.2.1, ((Go.IntKind.wrap .i64 r3), ((0 : Int), (([] : List (Int)), ())))))))
     else bif (decide (((Go.IntKind.wrap .i64 r3) : Int) = (3 : Int))) then some ((decide (((Go.IntKind.wrap .i64 r3) : Int) = (3 : Int))), (b9.2.2, (a1, (b9.2.1, ((Go.IntKind.wrap .i64 r3), ((0 : Int), (([] : List (Int)), ())))))))
     else bif (decide (((Go.IntKind.wrap .i64 r3) : Int) = (4 : Int))) then some ((decide (((Go.IntKind.wrap .i64 r3) : Int) = (4 : Int))), (b9.2.2, (a1, (b9.2.1, ((Go.IntKind.wrap .i64 r3), ((0 : Int), (([] : List (Int)), ())))))))
     else some ((decide (((Go.IntKind.wrap .i64 r3) : Int) = (10 : Int))), (b9.2.2, (a1, (b9.2.1, ((Go.IntKind.wrap .i64 r3), ((0 : Int), (([] : List (Int)), ())))))))).bind fun r10 =>
   bif r10.1 then some (.inr (r10.2.1, (r10.2.2.1, (r10.2.2.2.1, (r10.2.2.2.2.1, ((Go.IntKind.wrap .i64 b9.1), r10.2.2.2.2.2.2))))))
   else bif (decide (((Go.IntKind.wrap .i64 r3) : Int) = (8 : Int))) then some (.inr (r10.2.1, (r10.2.2.1, (r10.2.2.2.1, (r10.2.2.2.2.1, ((Go.IntKind.wrap .i64 ((Go.IntKind.wrap .i64 b9.1) - (1 : Int))), r10.2.2.2.2.2.2))))))
   else bif (decide (((Go.IntKind.wrap .i64 r3) : Int) = (12 : Int))) then bif (decide ((15 : Int) < b9.1)) then some (.inl ((161 : Int), ((0 : Int), ((0 : Int), ((0 : Int), ((0 : Int), (([] : List (Int)), ())))))))
   else bif (decide ((((List.length a0) : Nat) : Int) < (Go.IntKind.wrap .i64 ((Go.IntKind.wrap .i64 ((Go.IntKind.wrap .i64 (a1 + b9.2.1)) + (Go.IntKind.wrap .i64 b9.1))) + (1 : Int))))) then some (.inl ((30 : Int), ((0 : Int), ((0 : Int), ((0 : Int), ((0 : Int), (([] : List (Int)), ())))))))
   else (Go.Lf.loopF n (σ := (Int) × (((Int) × ((Int) × ((Int) × ((Int) × ((List (Int)) × (Unit)))))) × ((Int) × ((Int) × ((Int) × ((Int) × ((List (Int)) × (Unit)))))))) (κ := ((Int) × ((Int) × ((Int) × ((Int) × ((List (Int)) × (Unit)))))) × ((Int) × ((Int) × ((Int) × ((Int) × ((List (Int)) × (Unit))))))) (fun z11 =>
       bif (decide (z11.1 ≤ (Go.IntKind.wrap .i64 b9.1))) then ((Go.Lf.idx a0 (Go.IntKind.wrap .i64 ((Go.IntKind.wrap .i64 (a1 + b9.2.1)) + z11.1)))).bind fun r12 =>
       ((Go.Lf.app (8 : Nat) z11.2.1.2.2.2.2.1 ((Go.IntKind.wrap .i64 r12) :: ([] : List (Int))))).bind fun r13 =>
       some (.inl ((Go.IntKind.wrap .i64 (z11.1 + (1 : Int))), ((z11.2.1.1, (z11.2.1.2.1, (z11.2.1.2.2.1, (z11.2.1.2.2.2.1, (r13, z11.2.1.2.2.2.2.2))))), z11.2.2)))
       else some (.inr (z11.2.2, z11.2.1))) ((0 : Int), (r10.2.2, r10.2.1)) : Option (((Int) × ((Int) × ((Int) × ((Int) × ((List (Int)) × (Unit)))))) × ((Int) × ((Int) × ((Int) × ((Int) × ((List (Int)) × (Unit)))))))).bind fun r14 =>
   some (.inr (r14.1, (r14.2.1, ((Go.IntKind.wrap .i64 ((Go.IntKind.wrap .i64 (b9.2.1 + (Go.IntKind.wrap .i64 b9.1))) + (1 : Int))), r14.2.2.2))))
   else bif (decide ((b9.1 : Int) ≠ (0 : Int))) then some (.inl ((161 : Int), ((0 : Int), ((0 : Int), ((0 : Int), ((0 : Int), (([] : List (Int)), ())))))))
   else some (.inr (r10.2.1, r10.2.2)) : Option (((Int) × ((Int) × ((Int) × ((Int) × ((Int) × ((List (Int)) × (Unit))))))) ⊕ (((Int) × ((Int) × ((Int) × ((Int) × ((List (Int)) × (Unit)))))) × ((Int) × ((Int) × ((Int) × ((Int) × ((List (Int)) × (Unit))))))))).bind fun r15 =>
 Go.Lf.onSum r15 (fun a16 =>
 some (a16.2, a16.1)) (fun b17 =>
 some ((b17.2.1, (b17.2.2.1, (b17.2.2.2.1, (b17.2.2.2.2.1, (b17.2.2.2.2.2.1, b17.2.2.2.2.2.2))))), (0 : Int))))
theorem folioref16_Next_le (n : Nat) (a0 : List (Int)) (a1 : Int) : Go.Lf.Le (folioref16_Next_c n a0 a1) (folioref16_Next a0 a1) := by
  unfold folioref16_Next_c folioref16_Next
  repeat' first
    | with_reducible exact Go.Fn.folioref16_Take_le n _ _
    | with_reducible refine Go.Lf.Le.bind ?_ (fun _ => ?_)
    | with_reducible refine Go.Lf.Le.cond ?_ ?_
    | with_reducible refine Go.Lf.Le.loop (fun _ => ?_)
    | with_reducible refine Go.Lf.Le.onSum (fun _ => ?_) (fun _ => ?_)
    | with_reducible exact Go.Lf.Le.refl
noncomputable def folioref16_Instrs_c (n : Nat) (a0 : List (Int)) : Option ((List ((Int) × ((Int) × ((Int) × ((Int) × ((List (Int)) × (Unit))))))) × ((Int) × (Int))) :=
 bif (decide ((1048576 : Int) < (((List.length a0) : Nat) : Int))) then some (([] : List ((Int) × ((Int) × ((Int) × ((Int) × ((List (Int)) × (Unit))))))), ((0 : Int), (2 : Int)))
 else (Go.Lf.loopF n (σ := (Int) × (List ((Int) × ((Int) × ((Int) × ((Int) × ((List (Int)) × (Unit)))))))) (κ := (Int) ⊕ ((List ((Int) × ((Int) × ((Int) × ((Int) × ((List (Int)) × (Unit))))))) × ((Int) × (Int)))) (fun z1 =>
     bif (decide (z1.1 < (((List.length a0) : Nat) : Int))) then ((Go.Fn.folioref16_Next_c n a0 z1.1)).bind fun r2 =>
     bif (decide ((r2.2 : Int) ≠ (0 : Int))) then some (.inr (.inr (([] : List ((Int) × ((Int) × ((Int) × ((Int) × ((List (Int)) × (Unit))))))), (z1.1, r2.2))))
     else ((Go.Lf.app (56 : Nat) z1.2 (r2.1 :: ([] : List ((Int) × ((Int) × ((Int) × ((Int) × ((List (Int)) × (Unit)))))))))).bind fun r3 =>
     bif (decide ((r2.1.2.2.1 : Int) = (15 : Int))) then bif (decide ((Go.IntKind.wrap .i64 (z1.1 + r2.1.2.1)) < (((List.length a0) : Nat) : Int))) then some (.inr (.inr (([] : List ((Int) × ((Int) × ((Int) × ((Int) × ((List (Int)) × (Unit))))))), ((Go.IntKind.wrap .i64 (z1.1 + r2.1.2.1)), (162 : Int)))))
     else some (.inr (.inr (r3, ((0 : Int), (0 : Int)))))
     else some (.inl ((Go.IntKind.wrap .i64 (z1.1 + r2.1.2.1)), r3))
     else some (.inr (.inl z1.1))) ((0 : Int), ([] : List ((Int) × ((Int) × ((Int) × ((Int) × ((List (Int)) × (Unit)))))))) : Option ((Int) ⊕ ((List ((Int) × ((Int) × ((Int) × ((Int) × ((List (Int)) × (Unit))))))) × ((Int) × (Int))))).bind fun r4 =>
 Go.Lf.onSum r4 (fun a5 =>
 some (([] : List ((Int) × ((Int) × ((Int) × ((Int) × ((List (Int)) × (Unit))))))), (a5, (162 : Int)))) (fun b6 =>
 some (b6.1, (b6.2.1, b6.2.2)))
theorem folioref16_Instrs_le (n : Nat) (a0 : List (Int)) : Go.Lf.Le (folioref16_Instrs_c n a0) (folioref16_Instrs a0) := by
  unfold folioref16_Instrs_c folioref16_Instrs
  repeat' first
    | with_reducible exact Go.Fn.folioref16_Next_le n _ _
    | with_reducible refine Go.Lf.Le.bind ?_ (fun _ => ?_)
    | with_reducible refine Go.Lf.Le.cond ?_ ?_
    | with_reducible refine Go.Lf.Le.loop (fun _ => ?_)
    | with_reducible refine Go.Lf.Le.onSum (fun _ => ?_) (fun _ => ?_)
    | with_reducible exact Go.Lf.Le.refl
noncomputable def folioref16_Name_c (n : Nat) (a0 : Int) : Option (List (UInt8)) :=
 ((Go.Lf.idx (([] : List (UInt8)) :: (((116 : UInt8) :: ((101 : UInt8) :: ((120 : UInt8) :: ((116 : UInt8) :: ([] : List (UInt8)))))) :: (((115 : UInt8) :: ((116 : UInt8) :: ((121 : UInt8) :: ((108 : UInt8) :: ((101 : UInt8) :: ([] : List (UInt8))))))) :: (((108 : UInt8) :: ((105 : UInt8) :: ((110 : UInt8) :: ((107 : UInt8) :: ([] : List (UInt8)))))) :: (((110 : UInt8) :: ((111 : UInt8) :: ((116 : UInt8) :: ((101 : UInt8) :: ([] : List (UInt8)))))) :: (((99 : UInt8) :: ((108 : UInt8) :: ((111 : UInt8) :: ((115 : UInt8) :: ((101 : UInt8) :: ([] : List (UInt8))))))) :: (((116 : UInt8) :: ((97 : UInt8) :: ((98 : UInt8) :: ([] : List (UInt8))))) :: (((98 : UInt8) :: ((114 : UInt8) :: ((101 : UInt8) :: ((97 : UInt8) :: ((107 : UInt8) :: ([] : List (UInt8))))))) :: (((112 : UInt8) :: ((97 : UInt8) :: ((114 : UInt8) :: ((97 : UInt8) :: ([] : List (UInt8)))))) :: (((100 : UInt8) :: ((111 : UInt8) :: ((110 : UInt8) :: ((101 : UInt8) :: ([] : List (UInt8)))))) :: (((108 : UInt8) :: ((105 : UInt8) :: ((115 : UInt8) :: ((116 : UInt8) :: ([] : List (UInt8)))))) :: (((105 : UInt8) :: ((116 : UInt8) :: ((101 : UInt8) :: ((109 : UInt8) :: ([] : List (UInt8)))))) :: (((116 : UInt8) :: ((97 : UInt8) :: ((98 : UInt8) :: ((108 : UInt8) :: ((101 : UInt8) :: ([] : List (UInt8))))))) :: (((114 : UInt8) :: ((111 : UInt8) :: ((119 : UInt8) :: ([] : List (UInt8))))) :: (((101 : UInt8) :: ((110 : UInt8) :: ((100 : UInt8) :: ([] : List (UInt8))))) :: (((104 : UInt8) :: ((97 : UInt8) :: ((108 : UInt8) :: ((116 : UInt8) :: ([] : List (UInt8)))))) :: ([] : List (List (UInt8))))))))))))))))))) a0)).bind fun r1 =>
 some r1
theorem folioref16_Name_le (n : Nat) (a0 : Int) : Go.Lf.Le (folioref16_Name_c n a0) (folioref16_Name a0) := by
  unfold folioref16_Name_c folioref16_Name
  repeat' first
    | with_reducible refine Go.Lf.Le.bind ?_ (fun _ => ?_)
    | with_reducible refine Go.Lf.Le.cond ?_ ?_
    | with_reducible refine Go.Lf.Le.loop (fun _ => ?_)
    | with_reducible refine Go.Lf.Le.onSum (fun _ => ?_) (fun _ => ?_)
    | with_reducible exact Go.Lf.Le.refl
noncomputable def folioref16_numbered_c (n : Nat) (a0 : Int) : Option (Bool) :=
 (bif (decide ((1 : Int) ≤ a0)) then bif (!(decide (a0 ≤ (4 : Int)))) then bif (!(decide ((a0 : Int) = (8 : Int)))) then some (decide ((a0 : Int) = (10 : Int)))
   else some true
   else some true
   else bif (!(decide ((a0 : Int) = (8 : Int)))) then some (decide ((a0 : Int) = (10 : Int)))
   else some true).bind fun r1 =>
 some r1
theorem folioref16_numbered_le (n : Nat) (a0 : Int) : Go.Lf.Le (folioref16_numbered_c n a0) (folioref16_numbered a0) := by
  unfold folioref16_numbered_c folioref16_numbered
  repeat' first
    | with_reducible refine Go.Lf.Le.bind ?_ (fun _ => ?_)
    | with_reducible refine Go.Lf.Le.cond ?_ ?_
    | with_reducible refine Go.Lf.Le.loop (fun _ => ?_)
    | with_reducible refine Go.Lf.Le.onSum (fun _ => ?_) (fun _ => ?_)
    | with_reducible exact Go.Lf.Le.refl
noncomputable def folioref16_Line_c (n : Nat) (a0 : (Int) × ((Int) × ((Int) × ((Int) × ((List (Int)) × (Unit)))))) : Option (List (UInt8)) :=
 ((Go.Fn.strconv_Itoa_c n a0.1)).bind fun r1 =>
 ((Go.Lf.cat r1 ((32 : UInt8) :: ([] : List (UInt8))))).bind fun r2 =>
 ((Go.Fn.folioref16_Name_c n a0.2.2.1)).bind fun r3 =>
 ((Go.Lf.cat r2 r3)).bind fun r4 =>
 (((Go.Fn.folioref16_numbered_c n a0.2.2.1)).bind fun r5 =>
   bif r5 then ((Go.Lf.cat r4 ((32 : UInt8) :: ([] : List (UInt8))))).bind fun r6 =>
   ((Go.Fn.strconv_Itoa_c n a0.2.2.2.1)).bind fun r7 =>
   ((Go.Lf.cat r6 r7)).bind fun r8 =>
   some (r8, a0)
   else some (r4, a0)).bind fun r9 =>
 (Go.Lf.loopF n (σ := (Int) × ((List (UInt8)) × ((Int) × ((Int) × ((Int) × ((Int) × ((List (Int)) × (Unit)))))))) (κ := List (UInt8)) (fun z10 =>
     bif (decide (z10.1 < (((List.length z10.2.2.2.2.2.2.1) : Nat) : Int))) then ((Go.Lf.cat z10.2.1 ((32 : UInt8) :: ([] : List (UInt8))))).bind fun r11 =>
     ((Go.Lf.idx z10.2.2.2.2.2.2.1 z10.1)).bind fun r12 =>
     ((Go.Fn.strconv_Itoa_c n r12)).bind fun r13 =>
     ((Go.Lf.cat r11 r13)).bind fun r14 =>
     some (.inl ((Go.IntKind.wrap .i64 (z10.1 + (1 : Int))), (r14, z10.2.2)))
     else some (.inr z10.2.1)) ((0 : Int), (r9.1, r9.2)) : Option (List (UInt8))).bind fun r15 =>
 some r15
theorem folioref16_Line_le (n : Nat) (a0 : (Int) × ((Int) × ((Int) × ((Int) × ((List (Int)) × (Unit)))))) : Go.Lf.Le (folioref16_Line_c n a0) (folioref16_Line a0) := by
  unfold folioref16_Line_c folioref16_Line
  repeat' first
    | with_reducible exact Go.Fn.folioref16_Name_le n _
    | with_reducible exact Go.Fn.folioref16_numbered_le n _
    | with_reducible exact Go.Fn.strconv_Itoa_le n _
    | with_reducible refine Go.Lf.Le.bind ?_ (fun _ => ?_)
    | with_reducible refine Go.Lf.Le.cond ?_ ?_
    | with_reducible refine Go.Lf.Le.loop (fun _ => ?_)
    | with_reducible refine Go.Lf.Le.onSum (fun _ => ?_) (fun _ => ?_)
    | with_reducible exact Go.Lf.Le.refl
noncomputable def folioref16_Listing_c (n : Nat) (a0 : List (Int)) : Option ((List (List (UInt8))) × ((Int) × (Int))) :=
 ((Go.Fn.folioref16_Instrs_c n a0)).bind fun r1 =>
 bif (decide ((r1.2.2 : Int) ≠ (0 : Int))) then some (([] : List (List (UInt8))), (r1.2.1, r1.2.2))
 else (Go.Lf.loopF n (σ := (Int) × (List (List (UInt8)))) (κ := List (List (UInt8))) (fun z2 =>
     bif (decide (z2.1 < (((List.length r1.1) : Nat) : Int))) then ((Go.Lf.idx r1.1 z2.1)).bind fun r3 =>
     ((Go.Fn.folioref16_Line_c n r3)).bind fun r4 =>
     ((Go.Lf.app (16 : Nat) z2.2 (r4 :: ([] : List (List (UInt8)))))).bind fun r5 =>
     some (.inl ((Go.IntKind.wrap .i64 (z2.1 + (1 : Int))), r5))
     else some (.inr z2.2)) ((0 : Int), ([] : List (List (UInt8)))) : Option (List (List (UInt8)))).bind fun r6 =>
 some (r6, ((0 : Int), (0 : Int)))
theorem folioref16_Listing_le (n : Nat) (a0 : List (Int)) : Go.Lf.Le (folioref16_Listing_c n a0) (folioref16_Listing a0) := by
  unfold folioref16_Listing_c folioref16_Listing
  repeat' first
    | with_reducible exact Go.Fn.folioref16_Instrs_le n _
    | with_reducible exact Go.Fn.folioref16_Line_le n _
    | with_reducible refine Go.Lf.Le.bind ?_ (fun _ => ?_)
    | with_reducible refine Go.Lf.Le.cond ?_ ?_
    | with_reducible refine Go.Lf.Le.loop (fun _ => ?_)
    | with_reducible refine Go.Lf.Le.onSum (fun _ => ?_) (fun _ => ?_)
    | with_reducible exact Go.Lf.Le.refl
noncomputable def foliolaw16_lines_c (n : Nat) (a0 : List (List (UInt8))) (a1 : List (List (UInt8))) : Option (Bool) :=
 bif (decide (((((List.length a0) : Nat) : Int) : Int) ≠ (((List.length a1) : Nat) : Int))) then some false
 else (Go.Lf.loopF n (σ := Int) (κ := (Unit) ⊕ (Bool)) (fun z1 =>
     bif (decide (z1 < (((List.length a0) : Nat) : Int))) then ((Go.Lf.idx a0 z1)).bind fun r2 =>
     ((Go.Lf.idx a1 z1)).bind fun r3 =>
     bif (decide ((r2 : List (UInt8)) ≠ r3)) then some (.inr (.inr false))
     else some (.inl (Go.IntKind.wrap .i64 (z1 + (1 : Int))))
     else some (.inr (.inl ()))) (0 : Int) : Option ((Unit) ⊕ (Bool))).bind fun r4 =>
 Go.Lf.onSum r4 (fun a5 =>
 some true) (fun b6 =>
 some b6)
theorem foliolaw16_lines_le (n : Nat) (a0 : List (List (UInt8))) (a1 : List (List (UInt8))) : Go.Lf.Le (foliolaw16_lines_c n a0 a1) (foliolaw16_lines a0 a1) := by
  unfold foliolaw16_lines_c foliolaw16_lines
  repeat' first
    | with_reducible refine Go.Lf.Le.bind ?_ (fun _ => ?_)
    | with_reducible refine Go.Lf.Le.cond ?_ ?_
    | with_reducible refine Go.Lf.Le.loop (fun _ => ?_)
    | with_reducible refine Go.Lf.Le.onSum (fun _ => ?_) (fun _ => ?_)
    | with_reducible exact Go.Lf.Le.refl
noncomputable def code_operand_c (n : Nat) (a0 : (Int) × ((Int) × ((List (UInt8)) × ((List (Int)) × (Unit))))) : Option ((Int) × (Bool)) :=
 (bif (decide ((a0.1 : Int) = (1 : Int))) then some (.inr (.inr (.inr (.inr ((Go.IntKind.wrap .i64 ((((List.length a0.2.2.1) : Nat) : Int) - (1 : Int))), (decide ((a0.2.2.1 : List (UInt8)) ≠ ([] : List (UInt8)))))))))
   else bif (decide ((a0.1 : Int) = (2 : Int))) then some (.inl a0)
   else bif (decide ((a0.1 : Int) = (3 : Int))) then some (.inl a0)
   else bif (decide ((a0.1 : Int) = (4 : Int))) then some (.inl a0)
   else bif (decide ((a0.1 : Int) = (10 : Int))) then some (.inl a0)
   else bif (decide ((a0.1 : Int) = (8 : Int))) then some (.inr (.inl a0))
   else bif (decide ((a0.1 : Int) = (12 : Int))) then some (.inr (.inr (.inl a0)))
   else some (.inr (.inr (.inr (.inl ())))) : Option (((Int) × ((Int) × ((List (UInt8)) × ((List (Int)) × (Unit))))) ⊕ (((Int) × ((Int) × ((List (UInt8)) × ((List (Int)) × (Unit))))) ⊕ (((Int) × ((Int) × ((List (UInt8)) × ((List (Int)) × (Unit))))) ⊕ ((Unit) ⊕ ((Int) × (Bool))))))).bind fun r1 =>
 Go.Lf.onSum r1 (fun a2 =>
 (bif (decide ((0 : Int) ≤ a2.2.1)) then some (a2.2.1, (decide (a2.2.1 ≤ (2147483647 : Int))))
   else some (a2.2.1, false)).bind fun r3 =>
 some (r3.1, r3.2)) (fun b4 =>
 Go.Lf.onSum b4 (fun a5 =>
 (bif (decide ((-(1 : Int)) ≤ a5.2.1)) then some ((Go.IntKind.wrap .i64 (a5.2.1 + (1 : Int))), (decide (a5.2.1 ≤ (2147483647 : Int))))
   else some ((Go.IntKind.wrap .i64 (a5.2.1 + (1 : Int))), false)).bind fun r6 =>
 some (r6.1, r6.2)) (fun b7 =>
 Go.Lf.onSum b7 (fun a8 =>
 (Go.Lf.loopF n (σ := (Int) × ((Int) × ((Int) × ((List (UInt8)) × ((List (Int)) × (Unit)))))) (κ := ((Int) × ((Int) × ((List (UInt8)) × ((List (Int)) × (Unit))))) ⊕ ((Int) × (Bool))) (fun z9 =>
     bif (decide (z9.1 < (((List.length a8.2.2.2.1) : Nat) : Int))) then ((Go.Lf.idx a8.2.2.2.1 z9.1)).bind fun r10 =>
     (bif (!(decide (r10 < (0 : Int)))) then some ((decide ((255 : Int) < r10)), z9.2)
       else some (true, z9.2)).bind fun r11 =>
     bif r11.1 then some (.inr (.inr ((0 : Int), false)))
     else some (.inl ((Go.IntKind.wrap .i64 (z9.1 + (1 : Int))), r11.2))
     else some (.inr (.inl z9.2))) ((0 : Int), a8) : Option (((Int) × ((Int) × ((List (UInt8)) × ((List (Int)) × (Unit))))) ⊕ ((Int) × (Bool)))).bind fun r12 =>
 Go.Lf.onSum r12 (fun a13 =>
 (bif (decide ((1 : Int) ≤ (((List.length a13.2.2.2.1) : Nat) : Int))) then some ((Go.IntKind.wrap .i64 ((((List.length a13.2.2.2.1) : Nat) : Int) - (1 : Int))), (decide ((((List.length a13.2.2.2.1) : Nat) : Int) ≤ (16 : Int))))
   else some ((Go.IntKind.wrap .i64 ((((List.length a13.2.2.2.1) : Nat) : Int) - (1 : Int))), false)).bind fun r14 =>
 some (r14.1, r14.2)) (fun b15 =>
 some (b15.1, b15.2))) (fun b16 =>
 Go.Lf.onSum b16 (fun a17 =>
 some ((0 : Int), true)) (fun b18 =>
 some (b18.1, b18.2)))))
theorem code_operand_le (n : Nat) (a0 : (Int) × ((Int) × ((List (UInt8)) × ((List (Int)) × (Unit))))) : Go.Lf.Le (code_operand_c n a0) (code_operand a0) := by
  unfold code_operand_c code_operand
  repeat' first
    | with_reducible refine Go.Lf.Le.bind ?_ (fun _ => ?_)
    | with_reducible refine Go.Lf.Le.cond ?_ ?_
    | with_reducible refine Go.Lf.Le.loop (fun _ => ?_)
    | with_reducible refine Go.Lf.Le.onSum (fun _ => ?_) (fun _ => ?_)
    | with_reducible exact Go.Lf.Le.refl
noncomputable def octet_grown_c (n : Nat) (a0 : List (Int)) (a1 : Int) : Option (List (Int)) :=
 ((Go.Lf.made0 (1 : Nat) (Go.IntKind.wrap .i64 ((((List.length a0) : Nat) : Int) + a1)))).bind fun r1 =>
 ((Go.Lf.app (1 : Nat) r1 a0)).bind fun r2 =>
 some r2
theorem octet_grown_le (n : Nat) (a0 : List (Int)) (a1 : Int) : Go.Lf.Le (octet_grown_c n a0 a1) (octet_grown a0 a1) := by
  unfold octet_grown_c octet_grown
  repeat' first
    | with_reducible refine Go.Lf.Le.bind ?_ (fun _ => ?_)
    | with_reducible refine Go.Lf.Le.cond ?_ ?_
    | with_reducible refine Go.Lf.Le.loop (fun _ => ?_)
    | with_reducible refine Go.Lf.Le.onSum (fun _ => ?_) (fun _ => ?_)
    | with_reducible exact Go.Lf.Le.refl
noncomputable def octet_PutUint_c (n : Nat) (a0 : List (Int)) (a1 : Int) : Option (List (Int)) :=
 ((Go.Fn.octet_grown_c n a0 (10 : Int))).bind fun r1 =>
 (Go.Lf.loopF n (σ := (Int) × (List (Int))) (κ := (Int) × (List (Int))) (fun z2 =>
     bif (decide ((127 : Int) < z2.1)) then ((Go.Lf.app (1 : Nat) z2.2 ((Go.Lf.bits .or .u8 (Go.IntKind.wrap .u8 z2.1) (128 : Int)) :: ([] : List (Int))))).bind fun r3 =>
     ((Go.Lf.nn (7 : Int) (Int.fdiv z2.1 ((2 : Int) ^ (Min.min (Int.toNat (7 : Int)) (64 : Nat)))))).bind fun r4 =>
     some (.inl (r4, r3))
     else some (.inr (z2.1, z2.2))) (a1, r1) : Option ((Int) × (List (Int)))).bind fun r5 =>
 ((Go.Lf.app (1 : Nat) r5.2 ((Go.IntKind.wrap .u8 r5.1) :: ([] : List (Int))))).bind fun r6 =>
 some r6
theorem octet_PutUint_le (n : Nat) (a0 : List (Int)) (a1 : Int) : Go.Lf.Le (octet_PutUint_c n a0 a1) (octet_PutUint a0 a1) := by
  unfold octet_PutUint_c octet_PutUint
  repeat' first
    | with_reducible exact Go.Fn.octet_grown_le n _ _
    | with_reducible refine Go.Lf.Le.bind ?_ (fun _ => ?_)
    | with_reducible refine Go.Lf.Le.cond ?_ ?_
    | with_reducible refine Go.Lf.Le.loop (fun _ => ?_)
    | with_reducible refine Go.Lf.Le.onSum (fun _ => ?_) (fun _ => ?_)
    | with_reducible exact Go.Lf.Le.refl
noncomputable def code_put_c (n : Nat) (a0 : List (Int)) (a1 : Int) (a2 : Int) : Option (List (Int)) :=
 bif (decide (a2 < (15 : Int))) then ((Go.Lf.nn (4 : Int) (Go.IntKind.wrap .i64 (a1 * ((2 : Int) ^ (Min.min (Int.toNat (4 : Int)) (64 : Nat))))))).bind fun r1 =>
 ((Go.Lf.app (1 : Nat) a0 ((Go.IntKind.wrap .u8 (Go.Lf.bits .or .i64 r1 a2)) :: ([] : List (Int))))).bind fun r2 =>
 some r2
 else ((Go.Lf.nn (4 : Int) (Go.IntKind.wrap .i64 (a1 * ((2 : Int) ^ (Min.min (Int.toNat (4 : Int)) (64 : Nat))))))).bind fun r3 =>
 ((Go.Lf.app (1 : Nat) a0 ((Go.IntKind.wrap .u8 (Go.Lf.bits .or .i64 r3 (15 : Int))) :: ([] : List (Int))))).bind fun r4 =>
 ((Go.Fn.octet_PutUint_c n r4 (Go.IntKind.wrap .u64 (Go.IntKind.wrap .i64 (a2 - (15 : Int)))))).bind fun r5 =>
 some r5
theorem code_put_le (n : Nat) (a0 : List (Int)) (a1 : Int) (a2 : Int) : Go.Lf.Le (code_put_c n a0 a1 a2) (code_put a0 a1 a2) := by
  unfold code_put_c code_put
  repeat' first
    | with_reducible exact Go.Fn.octet_PutUint_le n _ _
    | with_reducible refine Go.Lf.Le.bind ?_ (fun _ => ?_)
    | with_reducible refine Go.Lf.Le.cond ?_ ?_
    | with_reducible refine Go.Lf.Le.loop (fun _ => ?_)
    | with_reducible refine Go.Lf.Le.onSum (fun _ => ?_) (fun _ => ?_)
    | with_reducible exact Go.Lf.Le.refl
noncomputable def code_Encode_c (n : Nat) (a0 : List ((Int) × ((Int) × ((List (UInt8)) × ((List (Int)) × (Unit)))))) : Option ((List (Int)) × ((List (UInt8)) × (Int))) :=
 bif (decide ((65536 : Int) < (((List.length a0) : Nat) : Int))) then some (([] : List (Int)), (([] : List (UInt8)), (2 : Int)))
 else (Go.Lf.loopF n (σ := (Int) × (Int)) (κ := (Unit) ⊕ ((List (Int)) × ((List (UInt8)) × (Int)))) (fun z1 =>
     bif (decide (z1.1 < (((List.length a0) : Nat) : Int))) then ((Go.Lf.idx a0 z1.1)).bind fun r2 =>
     (bif (decide ((r2.1 : Int) = (1 : Int))) then some (Go.IntKind.wrap .i64 (z1.2 + (((List.length r2.2.2.1) : Nat) : Int)))
       else some z1.2).bind fun r3 =>
     bif (decide ((16384 : Int) < r3)) then some (.inr (.inr (([] : List (Int)), (([] : List (UInt8)), (2 : Int)))))
     else some (.inl ((Go.IntKind.wrap .i64 (z1.1 + (1 : Int))), r3))
     else some (.inr (.inl ()))) ((0 : Int), (0 : Int)) : Option ((Unit) ⊕ ((List (Int)) × ((List (UInt8)) × (Int))))).bind fun r4 =>
 Go.Lf.onSum r4 (fun a5 =>
 (Go.Lf.loopF n (σ := (Int) × ((List (Int)) × (List (Int)))) (κ := ((List (Int)) × (List (Int))) ⊕ ((List (Int)) × ((List (UInt8)) × (Int)))) (fun z6 =>
     bif (decide (z6.1 < (((List.length a0) : Nat) : Int))) then (((Go.Lf.idx a0 z6.1)).bind fun r7 =>
       (bif (!(decide (r7.1 < (1 : Int)))) then some ((decide ((14 : Int) < r7.1)), (z6.2.1, (z6.2.2, r7)))
         else some (true, (z6.2.1, (z6.2.2, r7)))).bind fun r8 =>
       bif r8.1 then some (.inl (([] : List (Int)), (([] : List (UInt8)), (160 : Int))))
       else ((Go.Fn.code_operand_c n r8.2.2.2)).bind fun r9 =>
       bif (!r9.2) then some (.inl (([] : List (Int)), (([] : List (UInt8)), (161 : Int))))
       else ((Go.Fn.code_put_c n r8.2.2.1 r8.2.2.2.1 r9.1)).bind fun r10 =>
       (bif (decide ((r8.2.2.2.1 : Int) = (1 : Int))) then ((Go.Lf.app (1 : Nat) r8.2.1 (Go.Lf.bytesI r8.2.2.2.2.2.1))).bind fun r11 =>
         some (r10, (r11, r8.2.2.2))
         else some (r10, (r8.2.1, r8.2.2.2))).bind fun r12 =>
       bif (decide ((r12.2.2.1 : Int) = (12 : Int))) then (Go.Lf.loopF n (σ := (Int) × ((List (Int)) × (List (Int)))) (κ := (List (Int)) × (List (Int))) (fun z13 =>
           bif (decide (z13.1 < (((List.length r12.2.2.2.2.2.1) : Nat) : Int))) then ((Go.Lf.idx r12.2.2.2.2.2.1 z13.1)).bind fun r14 =>
           ((Go.Lf.app (1 : Nat) z13.2.1 ((Go.IntKind.wrap .u8 r14) :: ([] : List (Int))))).bind fun r15 =>
           some (.inl ((Go.IntKind.wrap .i64 (z13.1 + (1 : Int))), (r15, z13.2.2)))
           else some (.inr (z13.2.2, z13.2.1))) ((0 : Int), (r12.1, r12.2.1)) : Option ((List (Int)) × (List (Int)))).bind fun r16 =>
       some (.inr (r16.1, r16.2))
       else some (.inr (r12.2.1, r12.1)) : Option (((List (Int)) × ((List (UInt8)) × (Int))) ⊕ ((List (Int)) × (List (Int))))).bind fun r17 =>
     Go.Lf.onSum r17 (fun a18 =>
     some (.inr (.inr (a18.1, (a18.2.1, a18.2.2))))) (fun b19 =>
     some (.inl ((Go.IntKind.wrap .i64 (z6.1 + (1 : Int))), (b19.1, b19.2))))
     else some (.inr (.inl (z6.2.1, z6.2.2)))) ((0 : Int), (([] : List (Int)), ([] : List (Int)))) : Option (((List (Int)) × (List (Int))) ⊕ ((List (Int)) × ((List (UInt8)) × (Int))))).bind fun r20 =>
 Go.Lf.onSum r20 (fun a21 =>
 ((Go.Fn.code_put_c n a21.2 (15 : Int) (0 : Int))).bind fun r22 =>
 some (r22, ((Go.Lf.bytesU a21.1), (0 : Int)))) (fun b23 =>
 some (b23.1, (b23.2.1, b23.2.2)))) (fun b24 =>
 some (b24.1, (b24.2.1, b24.2.2)))
theorem code_Encode_le (n : Nat) (a0 : List ((Int) × ((Int) × ((List (UInt8)) × ((List (Int)) × (Unit)))))) : Go.Lf.Le (code_Encode_c n a0) (code_Encode a0) := by
  unfold code_Encode_c code_Encode
  repeat' first
    | with_reducible exact Go.Fn.code_operand_le n _
    | with_reducible exact Go.Fn.code_put_le n _ _ _
    | with_reducible refine Go.Lf.Le.bind ?_ (fun _ => ?_)
    | with_reducible refine Go.Lf.Le.cond ?_ ?_
    | with_reducible refine Go.Lf.Le.loop (fun _ => ?_)
    | with_reducible refine Go.Lf.Le.onSum (fun _ => ?_) (fun _ => ?_)
    | with_reducible exact Go.Lf.Le.refl
noncomputable def foliolaw16_awake_c (n : Nat)  : Option (Bool) :=
 ((Go.Fn.code_Encode_c n (((8 : Int), ((-(1 : Int)), (([] : List (UInt8)), (([] : List (Int)), ())))) :: (((1 : Int), ((0 : Int), (((97 : UInt8) :: ((98 : UInt8) :: ([] : List (UInt8)))), (([] : List (Int)), ())))) :: (((9 : Int), ((0 : Int), (([] : List (UInt8)), (([] : List (Int)), ())))) :: ([] : List ((Int) × ((Int) × ((List (UInt8)) × ((List (Int)) × (Unit))))))))))).bind fun r1 =>
 ((Go.Fn.code_Next_c n ((47 : Int) :: ((5 : Int) :: ([] : List (Int)))) (0 : Int))).bind fun r2 =>
 ((Go.Fn.code_List_c n ((128 : Int) :: ((17 : Int) :: ((144 : Int) :: ((240 : Int) :: ([] : List (Int)))))))).bind fun r3 =>
 (bif (decide ((r1.2.2 : Int) = (0 : Int))) then bif (decide (((Go.Lf.bytesU r1.1) : List (UInt8)) = (Go.Lf.bytesU ((128 : Int) :: ((17 : Int) :: ((144 : Int) :: ((240 : Int) :: ([] : List (Int))))))))) then bif (decide ((r1.2.1 : List (UInt8)) = ((97 : UInt8) :: ((98 : UInt8) :: ([] : List (UInt8)))))) then bif (decide ((r2.2 : Int) = (0 : Int))) then bif (decide ((r2.1.2.2.1 : Int) = (2 : Int))) then bif (decide ((r2.1.2.2.2.1 : Int) = (20 : Int))) then bif (decide ((r2.1.2.1 : Int) = (2 : Int))) then bif (decide ((r3.2.2 : Int) = (0 : Int))) then ((Go.Fn.foliolaw16_lines_c n r3.1 (((48 : UInt8) :: ((32 : UInt8) :: ((112 : UInt8) :: ((97 : UInt8) :: ((114 : UInt8) :: ((97 : UInt8) :: ((32 : UInt8) :: ((45 : UInt8) :: ((49 : UInt8) :: ([] : List (UInt8))))))))))) :: (((49 : UInt8) :: ((32 : UInt8) :: ((116 : UInt8) :: ((101 : UInt8) :: ((120 : UInt8) :: ((116 : UInt8) :: ((32 : UInt8) :: ((50 : UInt8) :: ([] : List (UInt8)))))))))) :: (((50 : UInt8) :: ((32 : UInt8) :: ((100 : UInt8) :: ((111 : UInt8) :: ((110 : UInt8) :: ((101 : UInt8) :: ([] : List (UInt8)))))))) :: (((51 : UInt8) :: ((32 : UInt8) :: ((104 : UInt8) :: ((97 : UInt8) :: ((108 : UInt8) :: ((116 : UInt8) :: ([] : List (UInt8)))))))) :: ([] : List (List (UInt8))))))))).bind fun r4 =>
   some r4
   else some false
   else some false
   else some false
   else some false
   else some false
   else some false
   else some false
   else some false).bind fun r5 =>
 some r5
theorem foliolaw16_awake_le (n : Nat)  : Go.Lf.Le (foliolaw16_awake_c n ) (foliolaw16_awake ) := by
  unfold foliolaw16_awake_c foliolaw16_awake
  repeat' first
    | with_reducible exact Go.Fn.code_Encode_le n _
    | with_reducible exact Go.Fn.code_List_le n _
    | with_reducible exact Go.Fn.code_Next_le n _ _
    | with_reducible exact Go.Fn.foliolaw16_lines_le n _ _
    | with_reducible refine Go.Lf.Le.bind ?_ (fun _ => ?_)
    | with_reducible refine Go.Lf.Le.cond ?_ ?_
    | with_reducible refine Go.Lf.Le.loop (fun _ => ?_)
    | with_reducible refine Go.Lf.Le.onSum (fun _ => ?_) (fun _ => ?_)
    | with_reducible exact Go.Lf.Le.refl
noncomputable def code_made_c (n : Nat) (a0 : Int) (a1 : List (List (UInt8))) : Option ((List (Int)) × (Bool)) :=
 (Go.Lf.loopF n (σ := (Int) × (List (Int))) (κ := (List (Int)) ⊕ ((List (Int)) × (Bool))) (fun z1 =>
     bif (decide (z1.1 < (((List.length a1) : Nat) : Int))) then ((Go.Lf.idx a1 z1.1)).bind fun r2 =>
     ((Go.Fn.strconv_Atoi_c n r2)).bind fun r3 =>
     (bif (!(Option.isSome r3.2)) then bif (!(decide (r3.1 < (-(1 : Int))))) then some ((decide ((2147483647 : Int) < r3.1)), z1.2)
       else some (true, z1.2)
       else some (true, z1.2)).bind fun r4 =>
     bif r4.1 then some (.inr (.inr (([] : List (Int)), false)))
     else ((Go.Lf.app (8 : Nat) r4.2 (r3.1 :: ([] : List (Int))))).bind fun r5 =>
     some (.inl ((Go.IntKind.wrap .i64 (z1.1 + (1 : Int))), r5))
     else some (.inr (.inl z1.2))) ((0 : Int), ([] : List (Int))) : Option ((List (Int)) ⊕ ((List (Int)) × (Bool)))).bind fun r6 =>
 Go.Lf.onSum r6 (fun a7 =>
 bif (decide ((a0 : Int) = (12 : Int))) then (bif (!(decide ((((List.length a7) : Nat) : Int) < (1 : Int)))) then some ((decide ((16 : Int) < (((List.length a7) : Nat) : Int))), a7)
   else some (true, a7)).bind fun r8 =>
 bif r8.1 then some (([] : List (Int)), false)
 else ((Go.Fn.code_put_c n ([] : List (Int)) a0 (Go.IntKind.wrap .i64 ((((List.length r8.2) : Nat) : Int) - (1 : Int))))).bind fun r9 =>
 (Go.Lf.loopF n (σ := (Int) × (List (Int))) (κ := (List (Int)) ⊕ ((List (Int)) × (Bool))) (fun z10 =>
     bif (decide (z10.1 < (((List.length r8.2) : Nat) : Int))) then ((Go.Lf.idx r8.2 z10.1)).bind fun r11 =>
     (bif (!(decide (r11 < (0 : Int)))) then some ((decide ((255 : Int) < r11)), z10.2)
       else some (true, z10.2)).bind fun r12 =>
     bif r12.1 then some (.inr (.inr (([] : List (Int)), false)))
     else ((Go.Lf.app (1 : Nat) r12.2 ((Go.IntKind.wrap .u8 r11) :: ([] : List (Int))))).bind fun r13 =>
     some (.inl ((Go.IntKind.wrap .i64 (z10.1 + (1 : Int))), r13))
     else some (.inr (.inl z10.2))) ((0 : Int), r9) : Option ((List (Int)) ⊕ ((List (Int)) × (Bool)))).bind fun r14 =>
 Go.Lf.onSum r14 (fun a15 =>
 some (a15, true)) (fun b16 =>
 some (b16.1, b16.2))
 else ((Go.Fn.code_numbered_c n a0)).bind fun r17 =>
 bif (!r17) then ((Go.Fn.code_put_c n ([] : List (Int)) a0 (0 : Int))).bind fun r18 =>
 some (r18, (decide (((((List.length a7) : Nat) : Int) : Int) = (0 : Int))))
 else bif (decide (((((List.length a7) : Nat) : Int) : Int) ≠ (1 : Int))) then some (([] : List (Int)), false)
 else ((Go.Lf.idx a7 (0 : Int))).bind fun r19 =>
 (bif (decide ((a0 : Int) = (1 : Int))) then some (Go.IntKind.wrap .i64 (r19 - (1 : Int)))
   else bif (decide ((a0 : Int) = (8 : Int))) then some (Go.IntKind.wrap .i64 (r19 + (1 : Int)))
   else some r19).bind fun r20 =>
 ((Go.Fn.code_put_c n ([] : List (Int)) a0 (Max.max r20 (0 : Int)))).bind fun r21 =>
 some (r21, (decide ((0 : Int) ≤ r20)))) (fun b22 =>
 some (b22.1, b22.2))
theorem code_made_le (n : Nat) (a0 : Int) (a1 : List (List (UInt8))) : Go.Lf.Le (code_made_c n a0 a1) (code_made a0 a1) := by
  unfold code_made_c code_made
  repeat' first
    | with_reducible exact Go.Fn.code_numbered_le n _
    | with_reducible exact Go.Fn.code_put_le n _ _ _
    | with_reducible exact Go.Fn.strconv_Atoi_le n _
    | with_reducible refine Go.Lf.Le.bind ?_ (fun _ => ?_)
    | with_reducible refine Go.Lf.Le.cond ?_ ?_
    | with_reducible refine Go.Lf.Le.loop (fun _ => ?_)
    | with_reducible refine Go.Lf.Le.onSum (fun _ => ?_) (fun _ => ?_)
    | with_reducible exact Go.Lf.Le.refl
noncomputable def code_read_c (n : Nat) (a0 : List (UInt8)) (a1 : Int) : Option ((List (Int)) × (Bool)) :=
 ((Go.Fn.strings_Split_c n a0 ((32 : UInt8) :: ([] : List (UInt8))))).bind fun r1 =>
 bif (decide ((((List.length r1) : Nat) : Int) < (2 : Int))) then some (([] : List (Int)), false)
 else (Go.Lf.loopF n (σ := (Int) × (List (Int))) (κ := (List (Int)) ⊕ ((List (Int)) × (Bool))) (fun z2 =>
     bif (decide (z2.1 ≤ (15 : Int))) then (((Go.Fn.code_name_c n z2.1)).bind fun r3 =>
       ((Go.Lf.idx r1 (1 : Int))).bind fun r4 =>
       bif (decide ((r3 : List (UInt8)) ≠ r4)) then some (.inl z2.2)
       else ((Go.Lf.sub r1 (2 : Int) (((List.length r1) : Nat) : Int))).bind fun r5 =>
       ((Go.Fn.code_made_c n z2.1 r5)).bind fun r6 =>
       bif (!r6.2) then some (.inr (([] : List (Int)), false))
       else ((Go.Lf.neL r6.1)).bind fun r7 =>
       some (.inl r7) : Option ((List (Int)) ⊕ ((List (Int)) × (Bool)))).bind fun r8 =>
     Go.Lf.onSum r8 (fun a9 =>
     some (.inl ((Go.IntKind.wrap .i64 (z2.1 + (1 : Int))), a9))) (fun b10 =>
     some (.inr (.inr (b10.1, b10.2))))
     else some (.inr (.inl z2.2))) ((1 : Int), ([] : List (Int))) : Option ((List (Int)) ⊕ ((List (Int)) × (Bool)))).bind fun r11 =>
 Go.Lf.onSum r11 (fun a12 =>
 bif (List.isEmpty a12) then some (([] : List (Int)), false)
 else ((Go.Fn.code_Next_c n a12 (0 : Int))).bind fun r13 =>
 bif (decide ((r13.2 : Int) ≠ (0 : Int))) then some (([] : List (Int)), false)
 else ((Go.Fn.code_line_c n (a1, r13.1.2))).bind fun r14 =>
 some (a12, (decide ((r14 : List (UInt8)) = a0)))) (fun b15 =>
 some (b15.1, b15.2))
theorem code_read_le (n : Nat) (a0 : List (UInt8)) (a1 : Int) : Go.Lf.Le (code_read_c n a0 a1) (code_read a0 a1) := by
  unfold code_read_c code_read
  repeat' first
    | with_reducible exact Go.Fn.code_Next_le n _ _
    | with_reducible exact Go.Fn.code_line_le n _
    | with_reducible exact Go.Fn.code_made_le n _ _
    | with_reducible exact Go.Fn.code_name_le n _
    | with_reducible exact Go.Fn.strings_Split_le n _ _
    | with_reducible refine Go.Lf.Le.bind ?_ (fun _ => ?_)
    | with_reducible refine Go.Lf.Le.cond ?_ ?_
    | with_reducible refine Go.Lf.Le.loop (fun _ => ?_)
    | with_reducible refine Go.Lf.Le.onSum (fun _ => ?_) (fun _ => ?_)
    | with_reducible exact Go.Lf.Le.refl
noncomputable def code_Read_c (n : Nat) (a0 : List (List (UInt8))) : Option ((List (Int)) × ((Int) × (Int))) :=
 bif (decide ((65537 : Int) < (((List.length a0) : Nat) : Int))) then some (([] : List (Int)), ((0 : Int), (2 : Int)))
 else (Go.Lf.loopF n (σ := (Int) × ((List (Int)) × (Int))) (κ := ((List (Int)) × (Int)) ⊕ ((List (Int)) × ((Int) × (Int)))) (fun z1 =>
     bif (decide (z1.1 < (((List.length a0) : Nat) : Int))) then ((Go.Lf.idx a0 z1.1)).bind fun r2 =>
     ((Go.Fn.code_read_c n r2 (((List.length z1.2.1) : Nat) : Int))).bind fun r3 =>
     (bif (!(!r3.2)) then some ((decide ((0 : Int) < z1.2.2)), z1.2.1)
       else some (true, z1.2.1)).bind fun r4 =>
     bif r4.1 then some (.inr (.inr (([] : List (Int)), (z1.1, (163 : Int)))))
     else (((Go.Lf.idx r3.1 (0 : Int))).bind fun r5 =>
       ((Go.Lf.nn (4 : Int) (Int.fdiv r5 ((2 : Int) ^ (Min.min (Int.toNat (4 : Int)) (8 : Nat)))))).bind fun r6 =>
       bif (decide ((r6 : Int) = (15 : Int))) then some ((1 : Int), r4.2)
       else some (z1.2.2, r4.2)).bind fun r7 =>
     ((Go.Lf.app (1 : Nat) r7.2 r3.1)).bind fun r8 =>
     some (.inl ((Go.IntKind.wrap .i64 (z1.1 + (1 : Int))), (r8, r7.1)))
     else some (.inr (.inl (z1.2.1, z1.2.2)))) ((0 : Int), (([] : List (Int)), (0 : Int))) : Option (((List (Int)) × (Int)) ⊕ ((List (Int)) × ((Int) × (Int))))).bind fun r9 =>
 Go.Lf.onSum r9 (fun a10 =>
 bif (decide ((a10.2 : Int) = (0 : Int))) then some (([] : List (Int)), ((((List.length a0) : Nat) : Int), (162 : Int)))
 else some (a10.1, ((0 : Int), (0 : Int)))) (fun b11 =>
 some (b11.1, (b11.2.1, b11.2.2)))
theorem code_Read_le (n : Nat) (a0 : List (List (UInt8))) : Go.Lf.Le (code_Read_c n a0) (code_Read a0) := by
  unfold code_Read_c code_Read
  repeat' first
    | with_reducible exact Go.Fn.code_read_le n _ _
    | with_reducible refine Go.Lf.Le.bind ?_ (fun _ => ?_)
    | with_reducible refine Go.Lf.Le.cond ?_ ?_
    | with_reducible refine Go.Lf.Le.loop (fun _ => ?_)
    | with_reducible refine Go.Lf.Le.onSum (fun _ => ?_) (fun _ => ?_)
    | with_reducible exact Go.Lf.Le.refl
noncomputable def folioref16_words_c (n : Nat) (a0 : List (UInt8)) : Option (List (List (UInt8))) :=
 (Go.Lf.loopF n (σ := (Int) × ((Int) × (List (List (UInt8))))) (κ := List (List (UInt8))) (fun z1 =>
     bif (decide (z1.1 ≤ (((List.length a0) : Nat) : Int))) then ((bif (!(decide ((z1.1 : Int) = (((List.length a0) : Nat) : Int)))) then ((Go.Lf.idx a0 z1.1)).bind fun r2 =>
         some ((decide (((((UInt8.toNat r2) : Nat) : Int) : Int) = (32 : Int))), z1.2.2)
         else some (true, z1.2.2)).bind fun r3 =>
       bif r3.1 then ((Go.Lf.sub a0 z1.2.1 z1.1)).bind fun r4 =>
       ((Go.Lf.app (16 : Nat) r3.2 (r4 :: ([] : List (List (UInt8)))))).bind fun r5 =>
       some ((Go.IntKind.wrap .i64 (z1.1 + (1 : Int))), r5)
       else some (z1.2.1, r3.2)).bind fun r6 =>
     some (.inl ((Go.IntKind.wrap .i64 (z1.1 + (1 : Int))), (r6.1, r6.2)))
     else some (.inr z1.2.2)) ((0 : Int), ((0 : Int), ([] : List (List (UInt8))))) : Option (List (List (UInt8)))).bind fun r7 =>
 some r7
theorem folioref16_words_le (n : Nat) (a0 : List (UInt8)) : Go.Lf.Le (folioref16_words_c n a0) (folioref16_words a0) := by
  unfold folioref16_words_c folioref16_words
  repeat' first
    | with_reducible refine Go.Lf.Le.bind ?_ (fun _ => ?_)
    | with_reducible refine Go.Lf.Le.cond ?_ ?_
    | with_reducible refine Go.Lf.Le.loop (fun _ => ?_)
    | with_reducible refine Go.Lf.Le.onSum (fun _ => ?_) (fun _ => ?_)
    | with_reducible exact Go.Lf.Le.refl
noncomputable def folioref16_number_c (n : Nat) (a0 : List (UInt8)) : Option ((Int) × (Bool)) :=
 (bif (decide ((0 : Int) < (((List.length a0) : Nat) : Int))) then ((Go.Lf.idx a0 (0 : Int))).bind fun r1 =>
   some ((0 : Int), (decide (((((UInt8.toNat r1) : Nat) : Int) : Int) = (45 : Int))))
   else some ((0 : Int), false)).bind fun r2 =>
 (Go.Lf.loopF n (σ := (Int) × (Int)) (κ := Int) (fun z3 =>
     bif (decide (z3.1 < (((List.length a0) : Nat) : Int))) then ((((Go.Lf.idx a0 z3.1)).bind fun r4 =>
         bif (decide ((48 : Int) ≤ (((UInt8.toNat r4) : Nat) : Int))) then ((Go.Lf.idx a0 z3.1)).bind fun r5 =>
         bif (decide ((((UInt8.toNat r5) : Nat) : Int) ≤ (57 : Int))) then some (decide (z3.2 ≤ (2147483647 : Int)))
         else some false
         else some false).bind fun r6 =>
       bif r6 then ((Go.Lf.idx a0 z3.1)).bind fun r7 =>
       some (Go.IntKind.wrap .i64 ((Go.IntKind.wrap .i64 ((10 : Int) * z3.2)) + (Go.IntKind.wrap .i64 (Go.IntKind.wrap .u8 ((((UInt8.toNat r7) : Nat) : Int) - (48 : Int))))))
       else some z3.2).bind fun r8 =>
     some (.inl ((Go.IntKind.wrap .i64 (z3.1 + (1 : Int))), r8))
     else some (.inr z3.2)) ((0 : Int), r2.1) : Option (Int)).bind fun r9 =>
 (bif r2.2 then some (Go.IntKind.wrap .i64 ((0 : Int) - r9))
   else some r9).bind fun r10 =>
 ((Go.Fn.strconv_Itoa_c n r10)).bind fun r11 =>
 some (r10, (decide ((r11 : List (UInt8)) = a0)))
theorem folioref16_number_le (n : Nat) (a0 : List (UInt8)) : Go.Lf.Le (folioref16_number_c n a0) (folioref16_number a0) := by
  unfold folioref16_number_c folioref16_number
  repeat' first
    | with_reducible exact Go.Fn.strconv_Itoa_le n _
    | with_reducible refine Go.Lf.Le.bind ?_ (fun _ => ?_)
    | with_reducible refine Go.Lf.Le.cond ?_ ?_
    | with_reducible refine Go.Lf.Le.loop (fun _ => ?_)
    | with_reducible refine Go.Lf.Le.onSum (fun _ => ?_) (fun _ => ?_)
    | with_reducible exact Go.Lf.Le.refl
noncomputable def folioref16_Uint_c (n : Nat) (a0 : Int) : Option (List (Int)) :=
 (Go.Lf.loopF n (σ := (Int) × (List (Int))) (κ := (Int) × (List (Int))) (fun z1 =>
     bif (decide ((128 : Int) ≤ z1.1)) then ((Go.Lf.nz (128 : Int) (Int.tmod z1.1 (128 : Int)))).bind fun r2 =>
     ((Go.Lf.app (1 : Nat) z1.2 ((Go.IntKind.wrap .u8 (Go.IntKind.wrap .u64 (r2 + (128 : Int)))) :: ([] : List (Int))))).bind fun r3 =>
     ((Go.Lf.nz (128 : Int) (Go.IntKind.wrap .u64 (Int.tdiv z1.1 (128 : Int))))).bind fun r4 =>
     some (.inl (r4, r3))
     else some (.inr (z1.1, z1.2))) (a0, ([] : List (Int))) : Option ((Int) × (List (Int)))).bind fun r5 =>
 ((Go.Lf.app (1 : Nat) r5.2 ((Go.IntKind.wrap .u8 r5.1) :: ([] : List (Int))))).bind fun r6 =>
 some r6
theorem folioref16_Uint_le (n : Nat) (a0 : Int) : Go.Lf.Le (folioref16_Uint_c n a0) (folioref16_Uint a0) := by
  unfold folioref16_Uint_c folioref16_Uint
  repeat' first
    | with_reducible refine Go.Lf.Le.bind ?_ (fun _ => ?_)
    | with_reducible refine Go.Lf.Le.cond ?_ ?_
    | with_reducible refine Go.Lf.Le.loop (fun _ => ?_)
    | with_reducible refine Go.Lf.Le.onSum (fun _ => ?_) (fun _ => ?_)
    | with_reducible exact Go.Lf.Le.refl
noncomputable def folioref16_instruction_c (n : Nat) (a0 : Int) (a1 : Int) : Option (List (Int)) :=
 bif (decide (a1 < (15 : Int))) then some ((Go.IntKind.wrap .u8 (Go.IntKind.wrap .i64 ((Go.IntKind.wrap .i64 ((16 : Int) * a0)) + a1))) :: ([] : List (Int)))
 else ((Go.Fn.folioref16_Uint_c n (Go.IntKind.wrap .u64 (Go.IntKind.wrap .i64 (a1 - (15 : Int)))))).bind fun r1 =>
 ((Go.Lf.app (1 : Nat) ((Go.IntKind.wrap .u8 (Go.IntKind.wrap .i64 ((Go.IntKind.wrap .i64 ((16 : Int) * a0)) + (15 : Int)))) :: ([] : List (Int))) r1)).bind fun r2 =>
 some r2
theorem folioref16_instruction_le (n : Nat) (a0 : Int) (a1 : Int) : Go.Lf.Le (folioref16_instruction_c n a0 a1) (folioref16_instruction a0 a1) := by
  unfold folioref16_instruction_c folioref16_instruction
  repeat' first
    | with_reducible exact Go.Fn.folioref16_Uint_le n _
    | with_reducible refine Go.Lf.Le.bind ?_ (fun _ => ?_)
    | with_reducible refine Go.Lf.Le.cond ?_ ?_
    | with_reducible refine Go.Lf.Le.loop (fun _ => ?_)
    | with_reducible refine Go.Lf.Le.onSum (fun _ => ?_) (fun _ => ?_)
    | with_reducible exact Go.Lf.Le.refl
noncomputable def folioref16_bytes_c (n : Nat) (a0 : Int) (a1 : List (Int)) : Option ((List (Int)) × (Bool)) :=
 bif (decide ((a0 : Int) = (0 : Int))) then some (([] : List (Int)), false)
 else bif (decide ((a0 : Int) = (12 : Int))) then (bif (!(decide ((((List.length a1) : Nat) : Int) < (1 : Int)))) then some (decide ((16 : Int) < (((List.length a1) : Nat) : Int)))
   else some true).bind fun r1 =>
 bif r1 then some (([] : List (Int)), false)
 else ((Go.Fn.folioref16_instruction_c n a0 (Go.IntKind.wrap .i64 ((((List.length a1) : Nat) : Int) - (1 : Int))))).bind fun r2 =>
 (Go.Lf.loopF n (σ := (Int) × (List (Int))) (κ := (List (Int)) ⊕ ((List (Int)) × (Bool))) (fun z3 =>
     bif (decide (z3.1 < (((List.length a1) : Nat) : Int))) then (((Go.Lf.idx a1 z3.1)).bind fun r4 =>
       bif (!(decide (r4 < (0 : Int)))) then ((Go.Lf.idx a1 z3.1)).bind fun r5 =>
       some ((decide ((255 : Int) < r5)), z3.2)
       else some (true, z3.2)).bind fun r6 =>
     bif r6.1 then some (.inr (.inr (([] : List (Int)), false)))
     else ((Go.Lf.idx a1 z3.1)).bind fun r7 =>
     ((Go.Lf.app (1 : Nat) r6.2 ((Go.IntKind.wrap .u8 r7) :: ([] : List (Int))))).bind fun r8 =>
     some (.inl ((Go.IntKind.wrap .i64 (z3.1 + (1 : Int))), r8))
     else some (.inr (.inl z3.2))) ((0 : Int), r2) : Option ((List (Int)) ⊕ ((List (Int)) × (Bool)))).bind fun r9 =>
 Go.Lf.onSum r9 (fun a10 =>
 some (a10, true)) (fun b11 =>
 some (b11.1, b11.2))
 else ((Go.Fn.folioref16_numbered_c n a0)).bind fun r12 =>
 bif r12 then (bif (!(decide (((((List.length a1) : Nat) : Int) : Int) ≠ (1 : Int)))) then ((Go.Lf.idx a1 (0 : Int))).bind fun r13 =>
   bif (!(decide (r13 < (-(1 : Int))))) then ((Go.Lf.idx a1 (0 : Int))).bind fun r14 =>
   some (decide ((2147483647 : Int) < r14))
   else some true
   else some true).bind fun r15 =>
 bif r15 then some (([] : List (Int)), false)
 else ((Go.Lf.idx a1 (0 : Int))).bind fun r16 =>
 (bif (decide ((a0 : Int) = (1 : Int))) then some (Go.IntKind.wrap .i64 (r16 - (1 : Int)))
   else some r16).bind fun r17 =>
 (bif (decide ((a0 : Int) = (8 : Int))) then some (Go.IntKind.wrap .i64 (r17 + (1 : Int)))
   else some r17).bind fun r18 =>
 ((Go.Fn.folioref16_instruction_c n a0 (Max.max r18 (0 : Int)))).bind fun r19 =>
 some (r19, (decide ((0 : Int) ≤ r18)))
 else ((Go.Fn.folioref16_instruction_c n a0 (0 : Int))).bind fun r20 =>
 some (r20, (decide (((((List.length a1) : Nat) : Int) : Int) = (0 : Int))))
theorem folioref16_bytes_le (n : Nat) (a0 : Int) (a1 : List (Int)) : Go.Lf.Le (folioref16_bytes_c n a0 a1) (folioref16_bytes a0 a1) := by
  unfold folioref16_bytes_c folioref16_bytes
  repeat' first
    | with_reducible exact Go.Fn.folioref16_instruction_le n _ _
    | with_reducible exact Go.Fn.folioref16_numbered_le n _
    | with_reducible refine Go.Lf.Le.bind ?_ (fun _ => ?_)
    | with_reducible refine Go.Lf.Le.cond ?_ ?_
    | with_reducible refine Go.Lf.Le.loop (fun _ => ?_)
    | with_reducible refine Go.Lf.Le.onSum (fun _ => ?_) (fun _ => ?_)
    | with_reducible exact Go.Lf.Le.refl
noncomputable def folioref16_read_c (n : Nat) (a0 : List (UInt8)) (a1 : Int) : Option ((List (Int)) × ((Int) × (Bool))) :=
 ((Go.Fn.folioref16_words_c n a0)).bind fun r1 =>
 (bif (!(decide ((((List.length r1) : Nat) : Int) < (2 : Int)))) then ((Go.Lf.idx r1 (0 : Int))).bind fun r2 =>
   ((Go.Fn.strconv_Itoa_c n a1)).bind fun r3 =>
   some (decide ((r2 : List (UInt8)) ≠ r3))
   else some true).bind fun r4 =>
 bif r4 then some (([] : List (Int)), ((0 : Int), false))
 else (Go.Lf.loopF n (σ := (Int) × (Int)) (κ := Int) (fun z5 =>
     bif (decide (z5.1 ≤ (15 : Int))) then (((Go.Lf.idx r1 (1 : Int))).bind fun r6 =>
       ((Go.Fn.folioref16_Name_c n z5.1)).bind fun r7 =>
       bif (decide ((r6 : List (UInt8)) = r7)) then some z5.1
       else some z5.2).bind fun r8 =>
     some (.inl ((Go.IntKind.wrap .i64 (z5.1 + (1 : Int))), r8))
     else some (.inr z5.2)) ((1 : Int), (0 : Int)) : Option (Int)).bind fun r9 =>
 (Go.Lf.loopF n (σ := (Int) × (List (Int))) (κ := (List (Int)) ⊕ ((List (Int)) × ((Int) × (Bool)))) (fun z10 =>
     bif (decide (z10.1 < (((List.length r1) : Nat) : Int))) then ((Go.Lf.idx r1 z10.1)).bind fun r11 =>
     ((Go.Fn.folioref16_number_c n r11)).bind fun r12 =>
     bif (!r12.2) then some (.inr (.inr (([] : List (Int)), ((0 : Int), false))))
     else ((Go.Lf.app (8 : Nat) z10.2 (r12.1 :: ([] : List (Int))))).bind fun r13 =>
     some (.inl ((Go.IntKind.wrap .i64 (z10.1 + (1 : Int))), r13))
     else some (.inr (.inl z10.2))) ((2 : Int), ([] : List (Int))) : Option ((List (Int)) ⊕ ((List (Int)) × ((Int) × (Bool))))).bind fun r14 =>
 Go.Lf.onSum r14 (fun a15 =>
 ((Go.Fn.folioref16_bytes_c n r9 a15)).bind fun r16 =>
 bif (!r16.2) then some (([] : List (Int)), ((0 : Int), false))
 else ((Go.Fn.folioref16_Next_c n r16.1 (0 : Int))).bind fun r17 =>
 (bif (decide ((r17.2 : Int) = (0 : Int))) then ((Go.Fn.folioref16_Line_c n (a1, r17.1.2))).bind fun r18 =>
   some (r16.1, (r9, (decide ((r18 : List (UInt8)) = a0))))
   else some (r16.1, (r9, false))).bind fun r19 =>
 some (r19.1, (r19.2.1, r19.2.2))) (fun b20 =>
 some (b20.1, (b20.2.1, b20.2.2)))
theorem folioref16_read_le (n : Nat) (a0 : List (UInt8)) (a1 : Int) : Go.Lf.Le (folioref16_read_c n a0 a1) (folioref16_read a0 a1) := by
  unfold folioref16_read_c folioref16_read
  repeat' first
    | with_reducible exact Go.Fn.folioref16_Line_le n _
    | with_reducible exact Go.Fn.folioref16_Name_le n _
    | with_reducible exact Go.Fn.folioref16_Next_le n _ _
    | with_reducible exact Go.Fn.folioref16_bytes_le n _ _
    | with_reducible exact Go.Fn.folioref16_number_le n _
    | with_reducible exact Go.Fn.folioref16_words_le n _
    | with_reducible exact Go.Fn.strconv_Itoa_le n _
    | with_reducible refine Go.Lf.Le.bind ?_ (fun _ => ?_)
    | with_reducible refine Go.Lf.Le.cond ?_ ?_
    | with_reducible refine Go.Lf.Le.loop (fun _ => ?_)
    | with_reducible refine Go.Lf.Le.onSum (fun _ => ?_) (fun _ => ?_)
    | with_reducible exact Go.Lf.Le.refl
noncomputable def folioref16_Read_c (n : Nat) (a0 : List (List (UInt8))) : Option ((List (Int)) × ((Int) × (Int))) :=
 bif (decide ((65537 : Int) < (((List.length a0) : Nat) : Int))) then some (([] : List (Int)), ((0 : Int), (2 : Int)))
 else (Go.Lf.loopF n (σ := (Int) × ((List (Int)) × (Int))) (κ := ((List (Int)) × (Int)) ⊕ ((List (Int)) × ((Int) × (Int)))) (fun z1 =>
     bif (decide (z1.1 < (((List.length a0) : Nat) : Int))) then ((Go.Lf.idx a0 z1.1)).bind fun r2 =>
     ((Go.Fn.folioref16_read_c n r2 (((List.length z1.2.1) : Nat) : Int))).bind fun r3 =>
     (bif (!(!r3.2.2)) then some ((decide ((z1.2.2 : Int) = (15 : Int))), z1.2.1)
       else some (true, z1.2.1)).bind fun r4 =>
     bif r4.1 then some (.inr (.inr (([] : List (Int)), (z1.1, (163 : Int)))))
     else ((Go.Lf.app (1 : Nat) r4.2 r3.1)).bind fun r5 =>
     some (.inl ((Go.IntKind.wrap .i64 (z1.1 + (1 : Int))), (r5, r3.2.1)))
     else some (.inr (.inl (z1.2.1, z1.2.2)))) ((0 : Int), (([] : List (Int)), (0 : Int))) : Option (((List (Int)) × (Int)) ⊕ ((List (Int)) × ((Int) × (Int))))).bind fun r6 =>
 Go.Lf.onSum r6 (fun a7 =>
 bif (decide ((a7.2 : Int) ≠ (15 : Int))) then some (([] : List (Int)), ((((List.length a0) : Nat) : Int), (162 : Int)))
 else some (a7.1, ((0 : Int), (0 : Int)))) (fun b8 =>
 some (b8.1, (b8.2.1, b8.2.2)))
theorem folioref16_Read_le (n : Nat) (a0 : List (List (UInt8))) : Go.Lf.Le (folioref16_Read_c n a0) (folioref16_Read a0) := by
  unfold folioref16_Read_c folioref16_Read
  repeat' first
    | with_reducible exact Go.Fn.folioref16_read_le n _ _
    | with_reducible refine Go.Lf.Le.bind ?_ (fun _ => ?_)
    | with_reducible refine Go.Lf.Le.cond ?_ ?_
    | with_reducible refine Go.Lf.Le.loop (fun _ => ?_)
    | with_reducible refine Go.Lf.Le.onSum (fun _ => ?_) (fun _ => ?_)
    | with_reducible exact Go.Lf.Le.refl
noncomputable def foliolaw16_CodeLists_c (n : Nat) (a0 : List (Int)) (a1 : List (List (UInt8))) : Option (Bool) :=
 ((Go.Fn.foliolaw16_bytes_c n a0)).bind fun r1 =>
 ((Go.Fn.code_List_c n r1)).bind fun r2 =>
 ((Go.Fn.folioref16_Listing_c n a0)).bind fun r3 =>
 (((Go.Fn.foliolaw16_lines_c n r2.1 r3.1)).bind fun r4 =>
   bif (!(!r4)) then bif (!(decide ((r2.2.1 : Int) ≠ r3.2.1))) then bif (!(decide ((r2.2.2 : Int) ≠ r3.2.2))) then (Go.Fn.foliolaw16_awake_c n).bind fun r5 =>
   some (!r5)
   else some true
   else some true
   else some true).bind fun r6 =>
 bif r6 then some false
 else ((Go.Lf.app (16 : Nat) ([] : List (List (UInt8))) a1)).bind fun r7 =>
 ((Go.Fn.code_Read_c n r7)).bind fun r8 =>
 ((Go.Fn.folioref16_Read_c n a1)).bind fun r9 =>
 (bif (decide (((Go.Lf.bytesU r8.1) : List (UInt8)) = (Go.Lf.bytesU r9.1))) then bif (decide ((r8.2.1 : Int) = r9.2.1)) then some (decide ((r8.2.2 : Int) = r9.2.2))
   else some false
   else some false).bind fun r10 =>
 some r10
theorem foliolaw16_CodeLists_le (n : Nat) (a0 : List (Int)) (a1 : List (List (UInt8))) : Go.Lf.Le (foliolaw16_CodeLists_c n a0 a1) (foliolaw16_CodeLists a0 a1) := by
  unfold foliolaw16_CodeLists_c foliolaw16_CodeLists
  repeat' first
    | with_reducible exact Go.Fn.code_List_le n _
    | with_reducible exact Go.Fn.code_Read_le n _
    | with_reducible exact Go.Fn.foliolaw16_awake_le n
    | with_reducible exact Go.Fn.foliolaw16_bytes_le n _
    | with_reducible exact Go.Fn.foliolaw16_lines_le n _ _
    | with_reducible exact Go.Fn.folioref16_Listing_le n _
    | with_reducible exact Go.Fn.folioref16_Read_le n _
    | with_reducible refine Go.Lf.Le.bind ?_ (fun _ => ?_)
    | with_reducible refine Go.Lf.Le.cond ?_ ?_
    | with_reducible refine Go.Lf.Le.loop (fun _ => ?_)
    | with_reducible refine Go.Lf.Le.onSum (fun _ => ?_) (fun _ => ?_)
    | with_reducible exact Go.Lf.Le.refl
noncomputable def folioref16_ints_c (n : Nat) (a0 : List (Int)) (a1 : List (Int)) : Option (Bool) :=
 bif (decide (((((List.length a0) : Nat) : Int) : Int) ≠ (((List.length a1) : Nat) : Int))) then some false
 else (Go.Lf.loopF n (σ := Int) (κ := (Unit) ⊕ (Bool)) (fun z1 =>
     bif (decide (z1 < (((List.length a0) : Nat) : Int))) then ((Go.Lf.idx a0 z1)).bind fun r2 =>
     ((Go.Lf.idx a1 z1)).bind fun r3 =>
     bif (decide ((r2 : Int) ≠ r3)) then some (.inr (.inr false))
     else some (.inl (Go.IntKind.wrap .i64 (z1 + (1 : Int))))
     else some (.inr (.inl ()))) (0 : Int) : Option ((Unit) ⊕ (Bool))).bind fun r4 =>
 Go.Lf.onSum r4 (fun a5 =>
 some true) (fun b6 =>
 some b6)
theorem folioref16_ints_le (n : Nat) (a0 : List (Int)) (a1 : List (Int)) : Go.Lf.Le (folioref16_ints_c n a0 a1) (folioref16_ints a0 a1) := by
  unfold folioref16_ints_c folioref16_ints
  repeat' first
    | with_reducible refine Go.Lf.Le.bind ?_ (fun _ => ?_)
    | with_reducible refine Go.Lf.Le.cond ?_ ?_
    | with_reducible refine Go.Lf.Le.loop (fun _ => ?_)
    | with_reducible refine Go.Lf.Le.onSum (fun _ => ?_) (fun _ => ?_)
    | with_reducible exact Go.Lf.Le.refl
noncomputable def folioref16_SameInstr_c (n : Nat) (a0 : (Int) × ((Int) × ((Int) × ((Int) × ((List (Int)) × (Unit)))))) (a1 : (Int) × ((Int) × ((Int) × ((Int) × ((List (Int)) × (Unit)))))) : Option (Bool) :=
 (bif (decide ((a0.1 : Int) = a1.1)) then bif (decide ((a0.2.1 : Int) = a1.2.1)) then bif (decide ((a0.2.2.1 : Int) = a1.2.2.1)) then bif (decide ((a0.2.2.2.1 : Int) = a1.2.2.2.1)) then ((Go.Fn.folioref16_ints_c n a0.2.2.2.2.1 a1.2.2.2.2.1)).bind fun r1 =>
   some r1
   else some false
   else some false
   else some false
   else some false).bind fun r2 =>
 some r2
theorem folioref16_SameInstr_le (n : Nat) (a0 : (Int) × ((Int) × ((Int) × ((Int) × ((List (Int)) × (Unit)))))) (a1 : (Int) × ((Int) × ((Int) × ((Int) × ((List (Int)) × (Unit)))))) : Go.Lf.Le (folioref16_SameInstr_c n a0 a1) (folioref16_SameInstr a0 a1) := by
  unfold folioref16_SameInstr_c folioref16_SameInstr
  repeat' first
    | with_reducible exact Go.Fn.folioref16_ints_le n _ _
    | with_reducible refine Go.Lf.Le.bind ?_ (fun _ => ?_)
    | with_reducible refine Go.Lf.Le.cond ?_ ?_
    | with_reducible refine Go.Lf.Le.loop (fun _ => ?_)
    | with_reducible refine Go.Lf.Le.onSum (fun _ => ?_) (fun _ => ?_)
    | with_reducible exact Go.Lf.Le.refl
noncomputable def foliolaw16_instrs_c (n : Nat) (a0 : List ((Int) × ((Int) × ((Int) × ((Int) × ((List (Int)) × (Unit))))))) (a1 : List ((Int) × ((Int) × ((Int) × ((Int) × ((List (Int)) × (Unit))))))) : Option (Bool) :=
 bif (decide (((((List.length a0) : Nat) : Int) : Int) ≠ (((List.length a1) : Nat) : Int))) then some false
 else (Go.Lf.loopF n (σ := Int) (κ := (Unit) ⊕ (Bool)) (fun z1 =>
     bif (decide (z1 < (((List.length a0) : Nat) : Int))) then ((Go.Lf.idx a0 z1)).bind fun r2 =>
     ((Go.Lf.idx a1 z1)).bind fun r3 =>
     ((Go.Fn.folioref16_SameInstr_c n r2 r3)).bind fun r4 =>
     bif (!r4) then some (.inr (.inr false))
     else some (.inl (Go.IntKind.wrap .i64 (z1 + (1 : Int))))
     else some (.inr (.inl ()))) (0 : Int) : Option ((Unit) ⊕ (Bool))).bind fun r5 =>
 Go.Lf.onSum r5 (fun a6 =>
 some true) (fun b7 =>
 some b7)
theorem foliolaw16_instrs_le (n : Nat) (a0 : List ((Int) × ((Int) × ((Int) × ((Int) × ((List (Int)) × (Unit))))))) (a1 : List ((Int) × ((Int) × ((Int) × ((Int) × ((List (Int)) × (Unit))))))) : Go.Lf.Le (foliolaw16_instrs_c n a0 a1) (foliolaw16_instrs a0 a1) := by
  unfold foliolaw16_instrs_c foliolaw16_instrs
  repeat' first
    | with_reducible exact Go.Fn.folioref16_SameInstr_le n _ _
    | with_reducible refine Go.Lf.Le.bind ?_ (fun _ => ?_)
    | with_reducible refine Go.Lf.Le.cond ?_ ?_
    | with_reducible refine Go.Lf.Le.loop (fun _ => ?_)
    | with_reducible refine Go.Lf.Le.onSum (fun _ => ?_) (fun _ => ?_)
    | with_reducible exact Go.Lf.Le.refl
noncomputable def foliolaw16_CodeTiles_c (n : Nat) (a0 : List (Int)) (a1 : List (Int)) : Option (Bool) :=
 (Go.Fn.foliolaw16_awake_c n).bind fun r1 =>
 bif (!r1) then some false
 else ((Go.Fn.foliolaw16_bytes_c n a0)).bind fun r2 =>
 ((Go.Fn.code_Instrs_c n r2)).bind fun r3 =>
 bif (decide ((r3.2.2 : Int) ≠ (0 : Int))) then some (decide (((((List.length r3.1) : Nat) : Int) : Int) = (0 : Int)))
 else (Go.Lf.loopF n (σ := (Int) × (Int)) (κ := (Int) ⊕ (Bool)) (fun z4 =>
     bif (decide (z4.1 < (((List.length r3.1) : Nat) : Int))) then (((Go.Lf.idx r3.1 z4.1)).bind fun r5 =>
       bif (!(decide ((r5.1 : Int) ≠ z4.2))) then ((Go.Lf.idx r3.1 z4.1)).bind fun r6 =>
       some (decide (r6.2.1 < (1 : Int)))
       else some true).bind fun r7 =>
     bif r7 then some (.inr (.inr false))
     else ((Go.Lf.idx r3.1 z4.1)).bind fun r8 =>
     ((Go.Lf.idx r3.1 z4.1)).bind fun r9 =>
     bif (decide (((decide ((r9.2.2.1 : Int) = (15 : Int))) : Bool) ≠ (decide ((z4.1 : Int) = (Go.IntKind.wrap .i64 ((((List.length r3.1) : Nat) : Int) - (1 : Int))))))) then some (.inr (.inr false))
     else ((Go.Fn.foliolaw16_bytes_c n a0)).bind fun r10 =>
     ((Go.Lf.idx r3.1 z4.1)).bind fun r11 =>
     ((Go.Fn.code_Next_c n r10 r11.1)).bind fun r12 =>
     (bif (!(decide ((r12.2 : Int) ≠ (0 : Int)))) then ((Go.Lf.idx r3.1 z4.1)).bind fun r13 =>
       ((Go.Fn.folioref16_SameInstr_c n r12.1 r13)).bind fun r14 =>
       some (!r14)
       else some true).bind fun r15 =>
     bif r15 then some (.inr (.inr false))
     else some (.inl ((Go.IntKind.wrap .i64 (z4.1 + (1 : Int))), (Go.IntKind.wrap .i64 (z4.2 + r8.2.1))))
     else some (.inr (.inl z4.2))) ((0 : Int), (0 : Int)) : Option ((Int) ⊕ (Bool))).bind fun r16 =>
 Go.Lf.onSum r16 (fun a17 =>
 bif (decide ((a17 : Int) ≠ (((List.length a0) : Nat) : Int))) then some false
 else ((Go.Fn.foliolaw16_bytes_c n a0)).bind fun r18 =>
 ((Go.Fn.code_List_c n r18)).bind fun r19 =>
 (bif (!(decide ((r19.2.2 : Int) ≠ (0 : Int)))) then some (decide (((((List.length r19.1) : Nat) : Int) : Int) ≠ (((List.length r3.1) : Nat) : Int)))
   else some true).bind fun r20 =>
 bif r20 then some false
 else (bif (decide ((((List.length r19.1) : Nat) : Int) ≤ (65537 : Int))) then ((Go.Fn.code_Read_c n r19.1)).bind fun r21 =>
   (bif (!(decide ((r21.2.2 : Int) ≠ (0 : Int)))) then some (decide (((Go.Lf.bytesU r21.1) : List (UInt8)) ≠ (Go.Lf.bytesU a0)))
     else some true).bind fun r22 =>
   bif r22 then some (.inl false)
   else some (.inr ())
   else some (.inr ()) : Option ((Bool) ⊕ (Unit))).bind fun r23 =>
 Go.Lf.onSum r23 (fun a24 =>
 some a24) (fun b25 =>
 ((Go.Fn.foliolaw16_bytes_c n a1)).bind fun r26 =>
 ((Go.Fn.code_Instrs_c n r26)).bind fun r27 =>
 (bif (!(decide ((r27.2.2 : Int) ≠ (0 : Int)))) then bif (!(decide (((Go.Lf.bytesU a0) : List (UInt8)) = (Go.Lf.bytesU a1)))) then ((Go.Fn.foliolaw16_instrs_c n r3.1 r27.1)).bind fun r28 =>
   some (!r28)
   else some true
   else some true).bind fun r29 =>
 some r29)) (fun b30 =>
 some b30)
theorem foliolaw16_CodeTiles_le (n : Nat) (a0 : List (Int)) (a1 : List (Int)) : Go.Lf.Le (foliolaw16_CodeTiles_c n a0 a1) (foliolaw16_CodeTiles a0 a1) := by
  unfold foliolaw16_CodeTiles_c foliolaw16_CodeTiles
  repeat' first
    | with_reducible exact Go.Fn.code_Instrs_le n _
    | with_reducible exact Go.Fn.code_List_le n _
    | with_reducible exact Go.Fn.code_Next_le n _ _
    | with_reducible exact Go.Fn.code_Read_le n _
    | with_reducible exact Go.Fn.foliolaw16_awake_le n
    | with_reducible exact Go.Fn.foliolaw16_bytes_le n _
    | with_reducible exact Go.Fn.foliolaw16_instrs_le n _ _
    | with_reducible exact Go.Fn.folioref16_SameInstr_le n _ _
    | with_reducible refine Go.Lf.Le.bind ?_ (fun _ => ?_)
    | with_reducible refine Go.Lf.Le.cond ?_ ?_
    | with_reducible refine Go.Lf.Le.loop (fun _ => ?_)
    | with_reducible refine Go.Lf.Le.onSum (fun _ => ?_) (fun _ => ?_)
    | with_reducible exact Go.Lf.Le.refl
end Go.Fn
/- The chapter's first examples, reckoned. -/
namespace Go.Fn
open Go Go.Lf
theorem awake_c : foliolaw16_awake_c 60 = some true := by kernel_rfl
theorem awake : foliolaw16_awake = some true := foliolaw16_awake_le 60 _ awake_c
end Go.Fn
/-
  From a function's entry to a row's statement: the arguments are opened, nothing old has turned, so all reads as before.
-/
namespace Go.Lf
open Go Go.Eng Go.RowKit Go.ChangeShapes Go.WideShapes Go.ChangeMaps Go.ChangeAt

section
variable {H : Type} {enc : TypeId × Value → H} {P : Program}
def allRead (P : Program) (ts : List TypeId) : Bool := ts.all fun t => P.readableRec t && decide (t < P.types.size)
theorem trodAll_stay (hl : laidOutB P = true) {W W' : World} (hb : Below W.heap.size W W') : ∀ (ts : List TypeId) (vs : List Value) (ds : List (DataW H)) (ps : List MemPlace), allRead P ts = true →
    DataW.TrodAll enc P W 0 (fun _ => true) true ts vs ds ps → (∀ x ∈ ps, x.block < W.heap.size) → DataW.TrodAll enc P W' 0 (fun b => decide (b < W.heap.size)) true ts vs ds ps
  | [], [], [], _, _, h, _ => h
  | [], _ :: _, _, _, _, h, _ => h.elim
  | [], [], _ :: _, _, _, h, _ => h.elim
  | _ :: _, [], _, _, _, h, _ => h.elim
  | _ :: _, _ :: _, [], _, _, h, _ => h.elim
  | t :: ts, v :: vs, d :: ds, ps, hr, h, hlt => by
    obtain ⟨p, q, h1, h2, rfl⟩ := h
    simp only [allRead, List.all_cons, Bool.and_eq_true, decide_eq_true_eq] at hr
    exact ⟨p, q, Below.trod hl hr.1.1 hr.1.2 h1 hb (fun x hx => hlt x (List.mem_append_left _ hx)), trodAll_stay hl hb ts vs ds q hr.2 h2 (fun x hx => hlt x (List.mem_append_right _ hx)), rfl⟩
/-- The law answered true, and nothing old has turned. -/
theorem law_post {f : Func} {s : ChangeSpec} {W W' : World} {args : Array Value} {ds gs : List (DataW H)} {before : List MemPlace} {tb : TypeId} (hl : laidOutB P = true) (hr : allRead P f.params.toList = true) (hv : s.vars = [])
    (hres : f.resultTypes = #[tb]) (htb : P.underlying tb = some .bool) (hW : DataW.Whole enc P f.params.toList s.vars false W args.toList ds gs before)
    (hs : s.fn H (ds ++ gs) = { results := [.lit (.bool true)], args := ds, vars := [] }) (hb : Below W.heap.size W W') : s.post enc P f false true false false W args (.bool true) W' := by
  have hlt : ∀ p ∈ before, p.block < W.heap.size := fun p hp => hW.lt p hp
  have hW0 := hW
  obtain ⟨p, q, hA, hV, hps, _, _⟩ := hW
  rw [hv] at hV
  obtain ⟨rfl, rfl⟩ := trodVars_none hV
  refine ⟨ds, [], before, [], p, [], hW0, ?_, ?_, ?_, hb.frame _, fun h => by cases h⟩
  · rw [hs, hres]
    exact trodAll_mk1 (shut_bool htb true)
  · rw [hs]
    exact trodAll_stay hl hb _ _ _ _ hr hA (fun x hx => hlt x (by rw [hps]; exact List.mem_append_left _ hx))
  · rw [hs, hv]
    rfl
end

/-- The state that a law begins with. -/
def start (W : World) : Cx := ⟨W, [], fun _ => none⟩
def Lasts (W : World) (I : World → Prop) : Prop := ∀ w', Below W.heap.size W w' → I w'
theorem Lasts.and {W : World} {I J : World → Prop} (h : Lasts W I) (k : Lasts W J) : Lasts W (fun w => I w ∧ J w) := fun w' hb => ⟨h w' hb, k w' hb⟩
theorem Lasts.of {W : World} {p : Prop} (h : p) : Lasts W (fun _ => p) := fun _ _ => h
theorem hb_start {W : World} {I : World → Prop} (h : Lasts W I) : Hb (start W) (start W).w0 [] I :=
  ⟨⟨rfl, rfl, rfl, Nat.le_refl _, fun _ _ _ => rfl, fun c hc => absurd hc (by simp [start]), fun c hc => absurd hc (by simp [start]), fun c hc => absurd hc (by simp), fun c hc => absurd hc (by simp), List.Pairwise.nil, fun k m hk => by cases hk⟩,
   fun w' hx => h w' ⟨hx.os, hx.tape, hx.output, hx.size, fun k hk => hx.block k hk rfl (fun c hc => absurd hc (by simp))⟩⟩
theorem cell_lt {W : World} {a : Addr} {v : Value} (h : W.cell? a = some v) : a.block < W.heap.size := by
  rcases Nat.lt_or_ge a.block W.heap.size with h1 | h1
  · exact h1
  · simp [World.cell?, Array.getElem?_eq_none h1] at h
/-- all memory, as it lies -/
def phiOf (W : World) : Phi := fun a => W.cell? a
theorem lasts_agree (W : World) : Lasts W (Agree (phiOf W)) := fun _ hb a _ h => (hb.cell (cell_lt h)).trans h
theorem lasts_var {P : Program} {W : World} {name : String} {cs : Array Value} (h : W.var? P name = some cs) : Lasts W (fun w => w.var? P name = some cs) := fun w' hb => by
  unfold World.var? at *
  cases hg : P.globalNamed name with
  | none => rw [hg] at h; simp at h
  | some g =>
    rw [hg] at h
    simp only [Option.bind_some] at *
    by_cases hlt : g < W.heap.size
    · rw [hb.block g hlt]; exact h
    · rw [Array.getElem?_eq_none (by omega)] at h; simp at h
theorem law_calls {P : Program} {G : World → Prop} {f : Nat} {e : Entry} {z : prodT (e.ps.map Par.ty)} {W : World} {vals : List Value} (he : EntryOk P G f e) (hr : e.rs = [.bool]) (ho : outs e.ps = []) {r : prodT (e.rs ++ outs e.ps)} (hz : e.f z = some r) (ht : unProd (e.rs ++ outs e.ps) r = [⟨.bool, true⟩])
    (ha : ArgsR (phiOf W) e.ps z vals [] []) (hG : Lasts W G) : Calls P f vals.toArray W fun e W' => e = .returned (.bool true) ∧ Below W.heap.size W W' := by
  refine Calls.mono (he.ok z r hz (start W) (phiOf W) vals [] [] ha (hb_start (hG.and (lasts_agree W)))) ?_
  rintro x w' ⟨v, φ', h1, h2, rfl, _, hb, ⟨vs, hv, rfl⟩, _⟩
  rw [ht, hr] at hv
  refine ⟨?_, hb.hp.os, hb.hp.tape, hb.hp.output, hb.hp.size, fun k hk => hb.hp.keep k hk (by simp [start, free])⟩
  cases hv with
  | cons a1 a2 a3 =>
    cases a3
    obtain ⟨rfl, _⟩ := a2
    rfl

/-! ### The arguments -/
section
variable {H : Type} (enc : TypeId × Value → H) (P : Program) (W : World)
def Light (P : Program) (t : TypeId) (d : DataW H) : Prop := ∀ x ∈ d.weights P t, x ≤ reachBytes
end
def rnd (o a : Nat) : Nat := (o + a - 1) / a * a
/-- how a type lies in bytes: its alignment -/
def Ty.aln : Ty → Nat
  | .int k => k.bits / 8
  | .bool => 1
  | .unit => 1
  | .st t => t.aln
  | .pr a b => max a.aln b.aln
  | _ => 8
mutual
def Ty.byt : Ty → Nat
  | .int k => k.bits / 8
  | .bool => 1
  | .str => 16
  | .sl _ => 24
  | .rw _ _ => 24
  | .mr _ _ => 24
  | .it => 8
  | .itd => 8
  | .dead _ _ => 24
  | .eb _ _ => 16
  | .op _ => 8
  | .bx _ _ => 8
  | .on _ => 8
  | .ptr _ => 8
  | .st t => rnd (t.end_ 0) t.aln
  | _ => 0
/-- the end of a struct's fields from an offset on -/
def Ty.end_ : Ty → Nat → Nat
  | .pr a b, o => b.end_ (rnd o a.aln + a.byt)
  | _, o => o
end
/-- numbers that are of their kinds, lengths that lie in memory -/
def Wf : (t : Ty) → t.den → Prop
  | .int k, x => k.min ≤ x ∧ x ≤ k.max
  | .str, x => List.length x ≤ 140737488351232
  | .sl t, l => List.length l * t.byt ≤ 140737488351232 ∧ ∀ x ∈ (l : List t.den), Wf t x
  | .st t, x => Wf t x
  | .pr a b, x => Wf a x.1 ∧ Wf b x.2
  | _, _ => True
/-- how much a value holds -/
def Sz : (t : Ty) → t.den → Nat
  | .str, x => List.length x
  | .sl t, l => ((l : List t.den).map (Sz t)).sum + List.length l
  | .st t, x => Sz t x
  | .pr a b, x => Sz a x.1 + Sz b x.2
  | _, _ => 0
mutual
/-- how much data hold -/
def bulk {H : Type} : DataW H → Nat
  | .lit (.string b) => b.length
  | .slice es _ => bulkAll es + es.length
  | .agg ps => bulkAll ps
  | _ => 0
def bulkAll {H : Type} : List (DataW H) → Nat
  | [] => 0
  | d :: r => bulk d + bulkAll r
end
theorem bulkAll_map {H : Type} : ∀ l : List (DataW H), bulkAll l = (l.map bulk).sum
  | [] => rfl
  | d :: r => by
    rw [bulkAll, bulkAll_map r]; rfl
theorem sum_le2 {α β : Type} {f : α → Nat} {g : β → Nat} : ∀ {l : List α} {m : List β}, l.length = m.length → (∀ (i : Nat) x y, l[i]? = some x → m[i]? = some y → f x ≤ g y) → (l.map f).sum ≤ (m.map g).sum
  | [], [], _, _ => Nat.le_refl _
  | [], _ :: _, h, _ => by simp at h
  | _ :: _, [], h, _ => by simp at h
  | x :: l, y :: m, h, hR => by
    have h1 := hR 0 x y rfl rfl
    have h2 := sum_le2 (l := l) (m := m) (by simpa using h) fun i a b ha hb => hR (i + 1) a b (by simpa using ha) (by simpa using hb)
    simp only [List.map_cons, List.sum_cons]
    omega
/-- a type's number says this type -/
def opB (P : Program) : Ty → TypeId ⊕ (List Field × Nat) → Bool
  | .int k, .inl t => match P.underlying t with | some (.int k') => decide (k = k') | _ => false
  | .bool, .inl t => match P.underlying t with | some .bool => true | _ => false
  | .str, .inl t => match P.underlying t with | some .string => true | _ => false
  | .sl a, .inl t => match P.underlying t with | some (.slice e) => Nat.beq (P.cellsOf e) a.size && Nat.blt 0 a.size && Nat.beq (P.bytesOf e) a.byt && opB P a (.inl e) | _ => false
  | .st c, .inl t => match P.underlying t with | some (.struct fs) => Nat.beq (P.cellsOf t) c.size && opB P c (.inr (fs.toList, 0)) | _ => false
  | .pr a b, .inr (f :: fs, o) => Nat.beq f.offset o && Nat.beq (P.cellsOf f.type) a.size && opB P a (.inl f.type) && opB P b (.inr (fs, o + a.size))
  | .unit, .inr ([], _) => true
  | _, _ => false

section
variable {H : Type} (enc : TypeId × Value → H) (P : Program) (W : World)
def OpnT (t : TypeId) (a : Ty) : Prop :=
  ∀ fuel cs d ps, DataW.trod enc P W 0 (fun _ => true) true fuel t cs = some (d, ps) → Light P t d → ∃ x : a.den, Rp (phiOf W) a x cs [] ∧ Wf a x ∧ Sz a x ≤ bulk d
def OpnF (size o : Nat) (fs : List Field) (a : Ty) : Prop :=
  ∀ (n : Nat) (cs : List Value) (xs : List (DataW H × List MemPlace)), cs.length = size → xs.length = fs.length →
    (∀ (i : Nat) (f : Field), fs[i]? = some f → DataW.trod enc P W 0 (fun _ => true) true n f.type ((cs.drop f.offset).take (P.cellsOf f.type)) = xs[i]?) →
    (∀ (i : Nat) (f : Field) y, fs[i]? = some f → xs[i]? = some y → Light P f.type y.1) → o + a.size = size → ∃ x : a.den, Rp (phiOf W) a x (cs.drop o) [] ∧ Wf a x ∧ Sz a x ≤ bulkAll (xs.map (·.1))
end
section
variable {H : Type} {enc : TypeId × Value → H} {P : Program} {W : World} {t e : TypeId}
theorem light_slice {es sp : List (DataW H)} (ht : P.underlying t = some (.slice e)) (hl : Light P t (.slice es sp)) : es.length * P.bytesOf e ≤ 140737488351232 ∧ ∀ d ∈ es, Light P e d := by
  unfold Light at hl
  simp only [DataW.weights, ht] at hl
  have h7 : reachBytes = 140737488351232 := by decide
  constructor
  · have h1 := hl _ (List.mem_cons_self ..)
    have h2 : es.length * P.bytesOf e ≤ (es.length + sp.length) * P.bytesOf e := Nat.mul_le_mul_right _ (by omega)
    omega
  · intro d hd x hx
    refine hl x (List.mem_cons_of_mem _ (List.mem_append_left _ ?_))
    clear hl
    induction es with
    | nil => cases hd
    | cons a r ih =>
      simp only [DataW.weightsAll]
      rcases List.mem_cons.1 hd with rfl | h
      · exact List.mem_append_left _ hx
      · exact List.mem_append_right _ (ih h)
theorem light_agg {fs : Array Field} {ds : List (DataW H)} (ht : P.underlying t = some (.struct fs)) (hl : Light P t (.agg ds)) : ∀ (i : Nat) (f : Field) y, fs.toList[i]? = some f → ds[i]? = some y → Light P f.type y := by
  unfold Light at hl
  simp only [DataW.weights, ht] at hl
  have key : ∀ (l : List Field) (ds : List (DataW H)), (∀ x ∈ DataW.weightsEach P (l.map (·.type)) ds, x ≤ reachBytes) → ∀ (i : Nat) (f : Field) y, l[i]? = some f → ds[i]? = some y → Light P f.type y := by
    intro l
    induction l with
    | nil => intro ds _ i f y h; simp at h
    | cons g r ih =>
      intro ds hl i f y hf hy
      cases ds with
      | nil => simp at hy
      | cons d q =>
        simp only [List.map_cons, DataW.weightsEach] at hl
        cases i with
        | zero =>
          simp at hf hy
          subst hf hy
          exact fun x hx => hl x (List.mem_append_left _ hx)
        | succ i => exact ih q (fun x hx => hl x (List.mem_append_right _ hx)) i f y (by simpa using hf) (by simpa using hy)
  exact key fs.toList ds hl
theorem list_choose {α : Type} {p : Nat → α → Prop} : ∀ n, (∀ i, i < n → ∃ x, p i x) → ∃ l : List α, l.length = n ∧ ∀ i x, l[i]? = some x → p i x
  | 0, _ => ⟨[], rfl, fun i x h => by simp at h⟩
  | n + 1, h => by
    obtain ⟨l, h1, h2⟩ := list_choose n (fun i hi => h i (by omega))
    obtain ⟨x, hx⟩ := h n (by omega)
    refine ⟨l ++ [x], by simp [h1], fun i y hy => ?_⟩
    by_cases hi : i < n
    · rw [List.getElem?_append_left (by omega)] at hy; exact h2 i y hy
    · rw [List.getElem?_append_right (by omega)] at hy
      have h3 : i = n := by
        have := (List.getElem?_eq_some_iff.1 hy).1
        simp at this; omega
      subst h3
      rw [h1, Nat.sub_self] at hy
      simp at hy
      subst hy; exact hx
theorem all2_of {α β : Type} {R : α → β → Prop} : ∀ {l : List α} {m : List β}, l.length = m.length → (∀ (i : Nat) x y, l[i]? = some x → m[i]? = some y → R x y) → All2 R l m
  | [], [], _, _ => .nil
  | [], _ :: _, h, _ => by simp at h
  | _ :: _, [], h, _ => by simp at h
  | x :: l, y :: m, h, hR => .cons (hR 0 x y rfl rfl) (all2_of (by simpa using h) fun i a b ha hb => hR (i + 1) a b (by simpa using ha) (by simpa using hb))
/-- cells of a flat list of lists of one length -/
theorem flat_at {s : Nat} (hs : 0 < s) : ∀ (l : List (List Value)), (∀ c ∈ l, c.length = s) → ∀ (j : Nat) (v : Value), l.flatten[j]? = some v → ∃ i k c, j = i * s + k ∧ l[i]? = some c ∧ c[k]? = some v
  | [], _, j, v, h => by simp at h
  | d :: r, hl, j, v, h => by
    have h1 := hl d List.mem_cons_self
    rw [List.flatten_cons] at h
    by_cases hj : j < s
    · rw [List.getElem?_append_left (by omega)] at h
      exact ⟨0, j, d, by omega, rfl, h⟩
    · rw [List.getElem?_append_right (by omega), h1] at h
      obtain ⟨i, k, c, e1, e2, e3⟩ := flat_at hs r (fun c hc => hl c (List.mem_cons_of_mem _ hc)) (j - s) v h
      exact ⟨i + 1, k, c, by rw [Nat.succ_mul]; omega, by simpa using e2, e3⟩

theorem opn_ok : ∀ (a : Ty), (∀ t, opB P a (.inl t) = true → OpnT enc P W t a) ∧ (∀ fs o size, opB P a (.inr (fs, o)) = true → OpnF enc P W size o fs a)
  | .int k => by
    refine ⟨fun t h => ?_, fun fs o size h => by cases fs <;> simp [opB] at h⟩
    · skip
      unfold opB at h
      split at h
      · rename_i k' hu
        have h := of_decide_eq_true h
        subst h
        intro fuel cs d ps ht _
        obtain ⟨n, h1, h2, h3⟩ := DataW.trod_int hu ht
        exact ⟨n, ⟨h1, rfl⟩, by
          have h4 : k.min ≤ n ∧ n ≤ k.max := by simpa [Lit.wf] using h3
          exact ⟨h4, Nat.zero_le _⟩⟩
      · cases h
  | .bool => by
    refine ⟨fun t h => ?_, fun fs o size h => by cases fs <;> simp [opB] at h⟩
    · skip
      unfold opB at h
      split at h
      · rename_i hu
        intro fuel cs d ps ht _
        cases fuel with
        | zero => simp [DataW.trod] at ht
        | succ n =>
          unfold DataW.trod at ht
          rw [hu] at ht
          split at ht <;> simp_all [Rp, Wf, Sz]
      · cases h
  | .str => by
    refine ⟨fun t h => ?_, fun fs o size h => by cases fs <;> simp [opB] at h⟩
    · skip
      unfold opB at h
      split at h
      · rename_i hu
        intro fuel cs d ps ht hl
        obtain ⟨s, h1, h2, h3⟩ := DataW.trod_string hu ht
        injection h2 with h4 h5
        subst h4
        refine ⟨s.data.toList, ⟨by rw [h1], rfl⟩, ?_⟩
        have h6 := hl s.data.toList.length (by simp [DataW.weights])
        have h7 : reachBytes = 140737488351232 := by decide
        refine ⟨?_, Nat.le_refl _⟩
        show s.data.toList.length ≤ _
        omega
      · cases h
  | .unit => ⟨fun t h => by simp [opB] at h, fun fs o size h => by
      cases fs with
      | cons f r => simp [opB] at h
      | nil =>
        intro n cs xs hs _ _ _ hz
        have : o = cs.length := by rw [hs]; exact hz
        exact ⟨(), ⟨List.drop_eq_nil_of_le (by omega), rfl⟩, trivial, Nat.zero_le _⟩⟩
  | .sl a => by
    refine ⟨fun t h => ?_, fun fs o size h => by cases fs <;> simp [opB] at h⟩
    · skip
      unfold opB at h
      split at h
      case h_2 => cases h
      case h_1 e hu =>
      simp only [Bool.and_eq_true] at h
      obtain ⟨⟨⟨h1, h2⟩, h3⟩, h4⟩ := h
      have hn := Nat.eq_of_beq_eq_true h1
      have h0 : 0 < a.size := by simpa [Nat.blt_eq] using h2
      have hb := Nat.eq_of_beq_eq_true h3
      have he := (opn_ok a).1 e h4
      intro fuel cs d ps hd hl
      rcases DataW.trod_slice hu hd with ⟨g1, g2⟩ | ⟨ad, len, cap, elems, rest, m, _, rfl, hx, _, hlc, _, hlen, hel, _, _⟩
      · exact ⟨([] : List a.den), ⟨none, 0, [], g1, Nat.le_refl _, .nil, fun hn => absurd hn (by simp), rfl⟩, by simp [Wf], Nat.zero_le _⟩
      · injection hx with hx1 hx2
        subst hx1
        obtain ⟨hl1, hl2⟩ := light_slice hu hl
        rw [List.length_map, hlen, hb] at hl1
        have each : ∀ i, i < len → ∃ q : a.den × List Value, Rp (phiOf W) a q.1 q.2 [] ∧ Wf a q.1 ∧ (∀ k u, q.2[k]? = some u → W.cell? (ad.add (i * a.size + k)) = some u) ∧ ∀ y, elems[i]? = some y → Sz a q.1 ≤ bulk y.1 := by
          intro i hi
          obtain ⟨y, hy⟩ : ∃ y, elems[i]? = some y := ⟨_, List.getElem?_eq_getElem (by omega)⟩
          have h3 := hel i hi
          rw [hy, hn, Option.bind_eq_some_iff] at h3
          obtain ⟨cs', h4, h5⟩ := h3
          obtain ⟨y1, y2⟩ := y
          obtain ⟨x, h6, h7, h7b⟩ := he m cs' y1 y2 h5 (hl2 y1 (List.mem_map.2 ⟨(y1, y2), List.mem_of_getElem? hy, rfl⟩))
          obtain ⟨_, h8, h9⟩ := World.cells?_some h4
          refine ⟨(x, cs'), h6, h7, fun k u hu => ?_, fun y' hy' => (by rw [hy] at hy'; injection hy' with hy'; rw [← hy']; exact h7b)⟩
          have hk : k < a.size := by rw [← h6.len]; exact (List.getElem?_eq_some_iff.1 hu).1
          have := h9 k hk
          rw [hu, add_add'] at this
          exact this
        obtain ⟨l, h10, h11⟩ := list_choose len each
        have hll : (l.map (·.1)).length = len := by rw [List.length_map, h10]
        have hall : All2 (fun x cs => Rp (phiOf W) a x cs []) (l.map (·.1)) (l.map (·.2)) := all2_of (by simp) fun i x y hx hy => by
          rw [List.getElem?_map] at hx hy
          cases hq : l[i]? with
          | none => rw [hq] at hx; cases hx
          | some q =>
            rw [hq] at hx hy
            simp only [Option.map_some, Option.some.injEq] at hx hy
            subst hx hy
            exact (h11 i q hq).1
        refine ⟨l.map (·.1), ⟨some ad, cap, l.map (·.2), ?_, ?_, hall, fun _ => ⟨ad, rfl, fun j v hv => ?_⟩, rfl⟩, ⟨?_, fun x hx => ?_⟩, ?_⟩
        · show [Value.slice (some ad) len cap] = [Value.slice (some ad) (l.map (·.1)).length cap]
          rw [hll]
        · show (l.map (·.1)).length ≤ cap
          omega
        · obtain ⟨i, k, c, rfl, e2, e3⟩ := flat_at h0 (l.map (·.2)) (fun c hc => by
            obtain ⟨q, hq, rfl⟩ := List.mem_map.1 hc
            obtain ⟨i, hi⟩ := List.getElem?_of_mem hq
            exact (h11 i q hi).1.len) j v hv
          rw [List.getElem?_map] at e2
          cases hq : l[i]? with
          | none => rw [hq] at e2; cases e2
          | some q =>
            rw [hq] at e2
            simp only [Option.map_some, Option.some.injEq] at e2
            subst e2
            exact (h11 i q hq).2.2.1 k v e3
        · show (l.map (·.1)).length * a.byt ≤ _
          rw [hll]; exact hl1
        · obtain ⟨q, hq, rfl⟩ := List.mem_map.1 hx
          obtain ⟨i, hi⟩ := List.getElem?_of_mem hq
          exact (h11 i q hi).2.1
        · show ((l.map (·.1)).map (Sz a)).sum + (l.map (·.1)).length ≤ bulkAll (elems.map (·.1)) + (elems.map (·.1)).length
          rw [bulkAll_map, hll, List.length_map, hlen]
          refine Nat.add_le_add_right (sum_le2 (by rw [hll, List.length_map, hlen]) fun i x y hx hy => ?_) _
          rw [List.getElem?_map] at hx hy
          cases hq : l[i]? with
          | none => rw [hq] at hx; cases hx
          | some q =>
            cases he2 : elems[i]? with
            | none => rw [he2] at hy; cases hy
            | some z =>
              rw [hq] at hx
              rw [he2] at hy
              simp only [Option.map_some, Option.some.injEq] at hx hy
              subst hx hy
              exact (h11 i q hq).2.2.2 z he2
  | .st c => by
    refine ⟨fun t h => ?_, fun fs o size h => by cases fs <;> simp [opB] at h⟩
    · skip
      unfold opB at h
      split at h
      case h_2 => cases h
      case h_1 fs hu =>
      simp only [Bool.and_eq_true] at h
      have hs := Nat.eq_of_beq_eq_true h.1
      have hF := (opn_ok c).2 fs.toList 0 c.size h.2
      intro fuel cs d ps hd hl
      obtain ⟨xs, n, _, hx, hcl, hxl, hf⟩ := DataW.trod_struct hu hd
      injection hx with hx1 hx2
      subst hx1
      have hla := light_agg hu hl
      obtain ⟨x, h1, h2, h3⟩ := hF n cs xs (by rw [hcl, hs]) (by simpa using hxl) (fun i f hi => hf i f (by simpa using hi)) (fun i f y hi hy => hla i f y.1 hi (by simp [hy])) (by simp)
      have h1 : Rp (phiOf W) c x cs [] := by simpa using h1
      exact ⟨x, h1, h2, h3⟩
  | .pr a b => ⟨fun t h => by simp [opB] at h, fun fs o size h => by
      cases fs with
      | nil => simp [opB] at h
      | cons f fs =>
        unfold opB at h
        simp only [Bool.and_eq_true] at h
        obtain ⟨⟨⟨h1, h2⟩, h3⟩, h4⟩ := h
        have ho := Nat.eq_of_beq_eq_true h1
        have hm := Nat.eq_of_beq_eq_true h2
        have ha := (opn_ok a).1 _ h3
        have hb := (opn_ok b).2 fs (o + a.size) size h4
        intro n cs xs hs hxl hx hl hz
        cases xs with
        | nil => simp at hxl
        | cons y ys =>
          have h3 := hx 0 f rfl
          rw [ho, hm] at h3
          obtain ⟨y1, y2⟩ := y
          obtain ⟨x, g1, g2, g2b⟩ := ha n _ y1 y2 h3 (hl 0 f (y1, y2) rfl rfl)
          obtain ⟨z, g3, g4, g4b⟩ := hb n cs ys hs (by simpa using hxl) (fun i g hg => by simpa using hx (i + 1) g (by simpa using hg)) (fun i g y hg hy => hl (i + 1) g y (by simpa using hg) (by simpa using hy)) (by rw [← hz]; simp [Ty.size]; omega)
          refine ⟨(x, z), ⟨_, _, [], [], ?_, rfl, g1, g3⟩, ⟨g2, g4⟩, Nat.add_le_add g2b g4b⟩
          rw [← List.drop_drop, List.take_append_drop]⟩
  | .it => ⟨fun t h => by simp [opB] at h, fun fs o size h => by cases fs <;> simp [opB] at h⟩
  | .itd => ⟨fun t h => by simp [opB] at h, fun fs o size h => by cases fs <;> simp [opB] at h⟩
  | .dead _ _ => ⟨fun t h => by simp [opB] at h, fun fs o size h => by cases fs <;> simp [opB] at h⟩
  | .rw _ _ => ⟨fun t h => by simp [opB] at h, fun fs o size h => by cases fs <;> simp [opB] at h⟩
  | .mr _ _ => ⟨fun t h => by simp [opB] at h, fun fs o size h => by cases fs <;> simp [opB] at h⟩
  | .ptr _ => ⟨fun t h => by simp [opB] at h, fun fs o size h => by cases fs <;> simp [opB] at h⟩
  | .eb _ _ => ⟨fun t h => by simp [opB] at h, fun fs o size h => by cases fs <;> simp [opB] at h⟩
  | .op _ => ⟨fun t h => by simp [opB] at h, fun fs o size h => by cases fs <;> simp [opB] at h⟩
  | .bx _ _ => ⟨fun t h => by simp [opB] at h, fun fs o size h => by cases fs <;> simp [opB] at h⟩
  | .on _ => ⟨fun t h => by simp [opB] at h, fun fs o size h => by cases fs <;> simp [opB] at h⟩

theorem light_arg {ts : List TypeId} {ds : List (DataW H)} {j : Nat} {t : TypeId} {d : DataW H} (hz : (DataW.weightsEach P ts ds).all (· ≤ reachBytes) = true) (ht : ts[j]? = some t) (hd : ds[j]? = some d) : Light P t d := by
  intro x hx
  have h1 : ∀ y ∈ DataW.weightsEach P ts ds, y ≤ reachBytes := fun y hy => by simpa using List.all_eq_true.1 hz y hy
  clear hz
  induction ts generalizing ds j with
  | nil => simp at ht
  | cons a r ih =>
    cases ds with
    | nil => simp at hd
    | cons b q =>
      simp only [DataW.weightsEach] at h1
      cases j with
      | zero =>
        simp at ht hd
        subst ht hd
        exact h1 x (List.mem_append_left _ hx)
      | succ j => exact ih (by simpa using ht) (by simpa using hd) (fun y hy => h1 y (List.mem_append_right _ hy))
/-- an argument, opened -/
theorem open_argB {a : Ty} {v : Value} {d : DataW H} {ps : List MemPlace} {base : Nat} (ha : opB P a (.inl t) = true) (hv : Value.okWide P W .any base t v) (h : DataW.Trod enc P W 0 (fun _ => true) true t v d ps) (hl : Light P t d) :
    ∃ (x : a.den) (cs : List Value), a.top = true ∧ v = sv a cs ∧ Rp (phiOf W) a x cs [] ∧ Wf a x ∧ Sz a x ≤ bulk d := by
  obtain ⟨fuel, hf⟩ := h
  obtain ⟨x, h1, h2, h2b⟩ := (opn_ok (enc := enc) (W := W) a).1 t ha fuel _ d ps hf hl
  refine ⟨x, v.cells.toList, ?_, ?_, h1, h2, h2b⟩
  · cases a <;> first | rfl | (simp [opB] at ha; done)
  · cases a <;> first | (simp [opB] at ha; done) | skip
    all_goals unfold opB at ha
    all_goals split at ha <;> first | (cases ha; done) | skip
    all_goals rename_i hu
    · obtain ⟨n, rfl⟩ := okWide_int hu hv; rfl
    · obtain ⟨n, rfl⟩ := okWide_bool hu hv; rfl
    · obtain ⟨n, rfl⟩ := okWide_string hu hv; rfl
    · obtain ⟨A, n, c, rfl⟩ := okWide_slice hu hv; rfl
    · obtain ⟨cs, rfl, _⟩ := okWide_struct hu hv; rfl
theorem open_arg {a : Ty} {v : Value} {d : DataW H} {ps : List MemPlace} {base : Nat} (ha : opB P a (.inl t) = true) (hv : Value.okWide P W .any base t v) (h : DataW.Trod enc P W 0 (fun _ => true) true t v d ps) (hl : Light P t d) :
    ∃ (x : a.den) (cs : List Value), a.top = true ∧ v = sv a cs ∧ Rp (phiOf W) a x cs [] ∧ Wf a x :=
  let ⟨x, cs, h1, h2, h3, h4, _⟩ := open_argB ha hv h hl
  ⟨x, cs, h1, h2, h3, h4⟩
end
end Go.Lf
/- Chapter 16, plainly: the law CodeLists. -/
namespace Go.Fn
open Go Go.Lf

theorem idx_at {α : Type} (W : List α) (j : Nat) (h : j < W.length) : idx W (j : Int) = some W[j] := by
  unfold idx
  rw [if_pos (by omega), Int.toNat_natCast, List.getElem?_eq_getElem h]
theorem enc_len {i : Ins} (h : GoodI i) : (encI i).length ≤ 26 := by
  have h1 := laid_n h.l
  have h2 := put_len (k := i.2.2.1) (n := opS i.2.2.1 i.2.2.2.1 i.2.2.2.2.1) (by have := h.l.ho; omega)
  unfold encI encS
  rw [List.length_append]
  split
  · rw [wB_len]; omega
  · simp only [List.length_nil]; omega
theorem put_head {k n : Int} (hk : 1 ≤ k ∧ k ≤ 15) (hn : 0 ≤ n) (r : List UInt8) : ∃ x t, putS k n ++ r = x :: t ∧ ((x.toNat / 16 : Nat) : Int) = k := by
  unfold putS
  split
  · refine ⟨_, _, rfl, ?_⟩
    rw [byte_nat (by omega)]; omega
  · refine ⟨_, _, rfl, ?_⟩
    rw [byte_nat (by omega)]; omega
theorem enc_head {i : Ins} (h : GoodI i) : ∃ x t, encI i = x :: t ∧ ((x.toNat / 16 : Nat) : Int) = i.2.2.1 := put_head h.l.hk h.l.ho.1 _
theorem nn_4 (x : UInt8) : nn (4 : Int) (Int.fdiv (x.toNat : Int) ((2 : Int) ^ (Min.min (Int.toNat (4 : Int)) (8 : Nat)))) = some ((x.toNat / 16 : Nat) : Int) := by
  unfold nn
  rw [if_neg (by omega), show (2 : Int) ^ (Min.min (Int.toNat (4 : Int)) (8 : Nat)) = 16 from rfl, Int.fdiv_eq_ediv_of_nonneg _ (by omega)]
  congr 1
/-- the code's step over a line -/
noncomputable def CB (L : List (List UInt8)) (z1 : Int × (List Int × Int)) : Option ((Int × (List Int × Int)) ⊕ ((List Int × Int) ⊕ (List Int × (Int × Int)))) :=
     bif (decide (z1.1 < (((List.length L) : Nat) : Int))) then ((Go.Lf.idx L z1.1)).bind fun r2 =>
     ((Go.Fn.code_read r2 (((List.length z1.2.1) : Nat) : Int))).bind fun r3 =>
     (bif (!(!r3.2)) then some ((decide ((0 : Int) < z1.2.2)), z1.2.1)
       else some (true, z1.2.1)).bind fun r4 =>
     bif r4.1 then some (.inr (.inr (([] : List (Int)), (z1.1, (163 : Int)))))
     else (((Go.Lf.idx r3.1 (0 : Int))).bind fun r5 =>
       ((Go.Lf.nn (4 : Int) (Int.fdiv r5 ((2 : Int) ^ (Min.min (Int.toNat (4 : Int)) (8 : Nat)))))).bind fun r6 =>
       bif (decide ((r6 : Int) = (15 : Int))) then some ((1 : Int), r4.2)
       else some (z1.2.2, r4.2)).bind fun r7 =>
     ((Go.Lf.app (1 : Nat) r7.2 r3.1)).bind fun r8 =>
     some (.inl ((Go.IntKind.wrap .i64 (z1.1 + (1 : Int))), (r8, r7.1)))
     else some (.inr (.inl (z1.2.1, z1.2.2)))
noncomputable def RBd (L : List (List UInt8)) (z1 : Int × (List Int × Int)) : Option ((Int × (List Int × Int)) ⊕ ((List Int × Int) ⊕ (List Int × (Int × Int)))) :=
     bif (decide (z1.1 < (((List.length L) : Nat) : Int))) then ((Go.Lf.idx L z1.1)).bind fun r2 =>
     ((Go.Fn.folioref16_read r2 (((List.length z1.2.1) : Nat) : Int))).bind fun r3 =>
     (bif (!(!r3.2.2)) then some ((decide ((z1.2.2 : Int) = (15 : Int))), z1.2.1)
       else some (true, z1.2.1)).bind fun r4 =>
     bif r4.1 then some (.inr (.inr (([] : List (Int)), (z1.1, (163 : Int)))))
     else ((Go.Lf.app (1 : Nat) r4.2 r3.1)).bind fun r5 =>
     some (.inl ((Go.IntKind.wrap .i64 (z1.1 + (1 : Int))), (r5, r3.2.1)))
     else some (.inr (.inl (z1.2.1, z1.2.2)))
section
variable {L : List (List UInt8)} (hL : L.length ≤ 65537)
include hL
theorem CB_end (o : List Int) (h : Int) : CB L ((L.length : Int), (o, h)) = some (.inr (.inl (o, h))) := by
  have _h := hL
  unfold CB
  dsimp only
  rw [decide_eq_false (by omega), cond_false]
theorem RBd_end (o : List Int) (h : Int) : RBd L ((L.length : Int), (o, h)) = some (.inr (.inl (o, h))) := by
  have _h := hL
  unfold RBd
  dsimp only
  rw [decide_eq_false (by omega), cond_false]
theorem CB_bad {j : Nat} (hj : j < L.length) (o : List UInt8) (h : Int) {p : List Int} (hr : code_read L[j] ((o.length : Nat) : Int) = some (p, false)) :
    CB L ((j : Int), (ints o, h)) = some (.inr (.inr ([], ((j : Int), 163)))) := by
  have _h := hL
  unfold CB
  dsimp only
  rw [decide_eq_true (by omega), cond_true, idx_at L j hj, Option.bind_some, ints_len, hr]
  rfl
theorem CB_halt {j : Nat} (hj : j < L.length) (o : List UInt8) (h : Int) {p : List Int} (hr : code_read L[j] ((o.length : Nat) : Int) = some (p, true)) (hh : 0 < h) :
    CB L ((j : Int), (ints o, h)) = some (.inr (.inr ([], ((j : Int), 163)))) := by
  have _h := hL
  unfold CB
  dsimp only
  rw [decide_eq_true (show (j : Int) < (L.length : Int) by omega), cond_true, idx_at L j hj, Option.bind_some, ints_len, hr, Option.bind_some]
  dsimp only
  rw [Bool.not_true, Bool.not_false, cond_true, decide_eq_true hh]
  rfl
theorem CB_ok {j : Nat} (hj : j < L.length) (o : List UInt8) (h : Int) (ho : o.length ≤ 26 * j) {i : Ins} (hi : GoodI i) (hr : code_read L[j] ((o.length : Nat) : Int) = some (ints (encI i), true)) (hh : ¬ 0 < h) :
    CB L ((j : Int), (ints o, h)) = some (.inl (((j + 1 : Nat) : Int), (ints (o ++ encI i), if i.2.2.1 = 15 then 1 else h))) := by
  obtain ⟨x, t, hx, hk⟩ := enc_head hi
  have hl := enc_len hi
  have hx0 : idx (ints (encI i)) (0 : Int) = some ((x.toNat : Nat) : Int) := by rw [hx]; rfl
  unfold CB
  dsimp only
  rw [decide_eq_true (show (j : Int) < (L.length : Int) by omega), cond_true, idx_at L j hj, Option.bind_some, ints_len, hr, Option.bind_some]
  dsimp only
  rw [Bool.not_true, Bool.not_false, cond_true, decide_eq_false hh, Option.bind_some, cond_false, hx0, Option.bind_some, nn_4, Option.bind_some, hk]
  have ha : app (1 : Nat) (ints o) (ints (encI i)) = some (ints (o ++ encI i)) := by rw [app_of (by rw [ints_len, ints_len]; omega), ints_app]
  by_cases h15 : i.2.2.1 = 15
  · rw [decide_eq_true h15, cond_true, if_pos h15, Option.bind_some, ha, Option.bind_some, wrapI (by omega) (by omega)]
    rfl
  · rw [decide_eq_false h15, cond_false, if_neg h15, Option.bind_some, ha, Option.bind_some, wrapI (by omega) (by omega)]
    rfl
theorem RBd_bad {j : Nat} (hj : j < L.length) (o : List UInt8) (h : Int) {p : List Int} {k : Int} (hr : folioref16_read L[j] ((o.length : Nat) : Int) = some (p, (k, false))) :
    RBd L ((j : Int), (ints o, h)) = some (.inr (.inr ([], ((j : Int), 163)))) := by
  have _h := hL
  unfold RBd
  dsimp only
  rw [decide_eq_true (by omega), cond_true, idx_at L j hj, Option.bind_some, ints_len, hr]
  rfl
theorem RBd_halt {j : Nat} (hj : j < L.length) (o : List UInt8) (h : Int) {p : List Int} {k : Int} (hr : folioref16_read L[j] ((o.length : Nat) : Int) = some (p, (k, true))) (hh : h = 15) :
    RBd L ((j : Int), (ints o, h)) = some (.inr (.inr ([], ((j : Int), 163)))) := by
  have _h := hL
  unfold RBd
  dsimp only
  rw [decide_eq_true (show (j : Int) < (L.length : Int) by omega), cond_true, idx_at L j hj, Option.bind_some, ints_len, hr, Option.bind_some]
  dsimp only
  rw [Bool.not_true, Bool.not_false, cond_true, decide_eq_true hh]
  rfl
theorem RBd_ok {j : Nat} (hj : j < L.length) (o : List UInt8) (h : Int) (ho : o.length ≤ 26 * j) {i : Ins} (hi : GoodI i) (hr : folioref16_read L[j] ((o.length : Nat) : Int) = some (ints (encI i), (i.2.2.1, true))) (hh : ¬ h = 15) :
    RBd L ((j : Int), (ints o, h)) = some (.inl (((j + 1 : Nat) : Int), (ints (o ++ encI i), i.2.2.1))) := by
  have hl := enc_len hi
  unfold RBd
  dsimp only
  rw [decide_eq_true (show (j : Int) < (L.length : Int) by omega), cond_true, idx_at L j hj, Option.bind_some, ints_len, hr, Option.bind_some]
  dsimp only
  have ha : app (1 : Nat) (ints o) (ints (encI i)) = some (ints (o ++ encI i)) := by rw [app_of (by rw [ints_len, ints_len]; omega), ints_app]
  rw [Bool.not_true, Bool.not_false, cond_true, decide_eq_false hh, Option.bind_some, cond_false, ha, Option.bind_some, wrapI (by omega) (by omega)]
  rfl
theorem read_loop (hl : ∀ s ∈ L, s.length ≤ 1048576) : ∀ (m j : Nat) (o : List UInt8) (h la : Int), j + m = L.length → o.length ≤ 26 * j → ((h = 1 ∧ la = 15) ∨ (h = 0 ∧ la ≠ 15)) →
    (∃ o' h' la', loopC (CB L) ((j : Int), (ints o, h)) = some (.inl (ints o', h')) ∧ loopC (RBd L) ((j : Int), (ints o, la)) = some (.inl (ints o', la')) ∧ ((h' = 1 ∧ la' = 15) ∨ (h' = 0 ∧ la' ≠ 15))) ∨
    (∃ t, loopC (CB L) ((j : Int), (ints o, h)) = some (.inr t) ∧ loopC (RBd L) ((j : Int), (ints o, la)) = some (.inr t))
  | 0, j, o, h, la, hj, ho, hh => by
    have : j = L.length := by omega
    subst this
    refine .inl ⟨o, h, la, ?_, ?_, hh⟩
    · rw [loopC_step, CB_end hL]; rfl
    · rw [loopC_step, RBd_end hL]; rfl
  | m + 1, j, o, h, la, hj, ho, hh => by
    have hjl : j < L.length := by omega
    rcases reads_eq L[j] (hl _ (List.getElem_mem hjl)) ((o.length : Nat) : Int) (by omega) with ⟨i, hi, _, h1, h2⟩ | ⟨p, q, k, h1, h2⟩
    · rcases hh with ⟨rfl, rfl⟩ | ⟨rfl, hla⟩
      · refine .inr ⟨([], ((j : Int), (163 : Int))), ?_, ?_⟩
        · rw [loopC_step, CB_halt hL hjl o 1 h1 (by omega)]; rfl
        · rw [loopC_step, RBd_halt hL hjl o 15 h2 rfl]; rfl
      · rw [loopC_step, CB_ok hL hjl o 0 ho hi h1 (by omega), loopC_step (B := RBd L), RBd_ok hL hjl o la ho hi h2 hla]
        have hl2 := enc_len hi
        have := read_loop hl m (j + 1) (o ++ encI i) (if i.2.2.1 = 15 then 1 else 0) i.2.2.1 (by omega) (by rw [List.length_append]; omega) (by
          by_cases h15 : i.2.2.1 = 15
          · exact .inl ⟨if_pos h15, h15⟩
          · exact .inr ⟨if_neg h15, h15⟩)
        exact this
    · refine .inr ⟨([], ((j : Int), (163 : Int))), ?_, ?_⟩
      · rw [loopC_step, CB_bad hL hjl o h h1]; rfl
      · rw [loopC_step, RBd_bad hL hjl o la h2]; rfl
end
theorem reads_all (L : List (List UInt8)) (hn : L.length ≤ 1048576) (hl : ∀ s ∈ L, s.length ≤ 1048576) : ∃ r, code_Read L = some r ∧ folioref16_Read L = some r := by
  by_cases hL : L.length ≤ 65537
  · have e1 : code_Read L = ((loopC (CB L) ((0 : Int), (([] : List Int), (0 : Int)))).bind fun r9 => onSum r9 (fun a10 =>
 bif (decide ((a10.2 : Int) = (0 : Int))) then some (([] : List (Int)), ((((List.length L) : Nat) : Int), (162 : Int)))
 else some (a10.1, ((0 : Int), (0 : Int)))) (fun b11 =>
 some (b11.1, (b11.2.1, b11.2.2)))) := by
      unfold code_Read
      rw [decide_eq_false (by omega), cond_false]
      rfl
    have e2 : folioref16_Read L = ((loopC (RBd L) ((0 : Int), (([] : List Int), (0 : Int)))).bind fun r6 => onSum r6 (fun a7 =>
 bif (decide ((a7.2 : Int) ≠ (15 : Int))) then some (([] : List (Int)), ((((List.length L) : Nat) : Int), (162 : Int)))
 else some (a7.1, ((0 : Int), (0 : Int)))) (fun b8 =>
 some (b8.1, (b8.2.1, b8.2.2)))) := by
      unfold folioref16_Read
      rw [decide_eq_false (by omega), cond_false]
      rfl
    rw [e1, e2]
    rcases read_loop hL hl L.length 0 [] 0 0 (by omega) (Nat.zero_le _) (.inr ⟨rfl, by decide⟩) with ⟨o, h, la, h1, h2, h3⟩ | ⟨t, h1, h2⟩
    · have h1 : loopC (CB L) ((0 : Int), (([] : List Int), (0 : Int))) = _ := h1
      have h2 : loopC (RBd L) ((0 : Int), (([] : List Int), (0 : Int))) = _ := h2
      rw [h1, h2, Option.bind_some, Option.bind_some]
      simp only [onSum]
      rcases h3 with ⟨rfl, rfl⟩ | ⟨rfl, h3⟩
      · exact ⟨_, rfl, rfl⟩
      · rw [decide_eq_true h3]
        exact ⟨_, rfl, rfl⟩
    · have h1 : loopC (CB L) ((0 : Int), (([] : List Int), (0 : Int))) = _ := h1
      have h2 : loopC (RBd L) ((0 : Int), (([] : List Int), (0 : Int))) = _ := h2
      rw [h1, h2]
      exact ⟨_, rfl, rfl⟩
  · refine ⟨([], (0, 2)), ?_, ?_⟩
    · unfold code_Read
      rw [decide_eq_true (by omega), cond_true]
    · unfold folioref16_Read
      rw [decide_eq_true (by omega), cond_true]
theorem chain_mem {a : Nat} {l : List Ins} {r : List UInt8} (h : Chain a l r) : l.length ≤ r.length ∧ ∀ i ∈ l, GoodI i ∧ (a : Int) ≤ i.1 ∧ i.1 ≤ (a : Int) + (r.length : Int) := by
  induction h with
  | @last a i hg h1 hk =>
    have hp : 0 < (encI i).length := enc_pos _ _ _
    refine ⟨by simp only [List.length_cons, List.length_nil]; omega, fun j hj => ?_⟩
    rw [List.mem_singleton.1 hj]
    exact ⟨hg, by omega, by omega⟩
  | @more a i l r hg h1 hk hc ih =>
    have hp : 0 < (encI i).length := enc_pos _ _ _
    obtain ⟨i1, i2⟩ := ih
    refine ⟨by simp only [List.length_cons, List.length_append]; omega, fun j hj => ?_⟩
    rw [List.length_append]
    rcases List.mem_cons.1 hj with rfl | hj
    · exact ⟨hg, by omega, by omega⟩
    · have := i2 j hj
      exact ⟨this.1, by omega, by omega⟩
theorem list_loop (G : Ins → Option (List UInt8)) (l : List Ins) (hn : l.length ≤ 1048576) (hG : ∀ i ∈ l, G i = some (lineS i))
    (B : Int × List (List UInt8) → Option ((Int × List (List UInt8)) ⊕ List (List UInt8)))
    (hB : ∀ z2, B z2 = (bif (decide (z2.1 < (((List.length l) : Nat) : Int))) then ((Go.Lf.idx l z2.1)).bind fun r3 =>
     (G r3).bind fun r4 =>
     ((Go.Lf.app (16 : Nat) z2.2 (r4 :: ([] : List (List (UInt8)))))).bind fun r5 =>
     some (.inl ((Go.IntKind.wrap .i64 (z2.1 + (1 : Int))), r5))
     else some (.inr z2.2))) : loopC B ((0 : Int), ([] : List (List UInt8))) = some (l.map lineS) := by
  refine loop_fnS (B := B) (fun n => (l.take n).map lineS) l.length (l.map lineS) (fun i hi => ?_) ?_ l.length 0 (by omega)
  · rw [hB]
    dsimp only
    have hm : l[i] ∈ l := List.getElem_mem hi
    rw [decide_eq_true (by omega), cond_true, idx_at l i hi, Option.bind_some, hG _ hm, Option.bind_some, app_of (by simp only [List.length_map, List.length_take, List.length_cons, List.length_nil]; omega), Option.bind_some, wrapI (by omega) (by omega)]
    rw [show l.take (i + 1) = l.take i ++ [l[i]] by rw [List.take_add_one, List.getElem?_eq_getElem hi]; rfl, List.map_append]
    rfl
  · rw [hB]
    dsimp only
    rw [decide_eq_false (by omega), cond_false, List.take_length]
theorem chain_line {a : Nat} {l : List Ins} {r : List UInt8} (h : Chain a l r) (hb : a + r.length ≤ 1048576) : ∀ i ∈ l, LineI i := by
  intro i hi
  have := (chain_mem h).2 i hi
  exact good_line (i := i) this.1 i.1 (by omega)
/-- both sides' listings -/
theorem lists_eq (b : List UInt8) : ∃ r, code_List (ints b) = some r ∧ folioref16_Listing (ints b) = some r ∧ ((r.2.2 = 0 ∧ b.length ≤ 1048576 ∧ ∃ l, code_Instrs (ints b) = some (l, (0, 0)) ∧ Chain 0 l b ∧ r.1 = l.map lineS) ∨ (r.2.2 ≠ 0 ∧ r.1 = [])) := by
  obtain ⟨q, h1, h2, h3⟩ := instrs_eq b
  unfold code_List folioref16_Listing
  rw [h1, h2, Option.bind_some, Option.bind_some]
  rcases h3 with ⟨he, hp, hb, hc⟩ | ⟨he, hn⟩
  · have hlen := (chain_mem hc).1
    have hline := chain_line hc (by omega)
    rw [he, show decide ((0 : Int) ≠ 0) = false from rfl, cond_false, cond_false]
    rw [list_loop code_line q.1 (by omega) (fun i hi => line_eq (hline i hi)) _ (fun _ => rfl), list_loop folioref16_Line q.1 (by omega) (fun i hi => rline_eq (hline i hi)) _ (fun _ => rfl)]
    refine ⟨(q.1.map lineS, (0, 0)), rfl, rfl, .inl ⟨rfl, hb, q.1, ?_, hc, rfl⟩⟩
    obtain ⟨q1, q2, q3⟩ := q
    have he : q3 = 0 := he
    have hp : q2 = 0 := hp
    rw [he, hp]
  · rw [decide_eq_true he, cond_true, cond_true]
    exact ⟨_, rfl, rfl, .inr ⟨he, rfl⟩⟩
theorem lines_refl (x : List (List UInt8)) (hx : x.length ≤ 1048576) : foliolaw16_lines x x = some true := by
  unfold foliolaw16_lines
  rw [decide_eq_false (fun h => h rfl), cond_false]
  have : ∀ m j : Nat, j + m = x.length → loopC (σ := Int) (κ := (Unit) ⊕ (Bool)) (fun z1 =>
     bif (decide (z1 < (((List.length x) : Nat) : Int))) then ((Go.Lf.idx x z1)).bind fun r2 =>
     ((Go.Lf.idx x z1)).bind fun r3 =>
     bif (decide ((r2 : List (UInt8)) ≠ r3)) then some (.inr (.inr false))
     else some (.inl (Go.IntKind.wrap .i64 (z1 + (1 : Int))))
     else some (.inr (.inl ()))) (j : Int) = some (.inl ()) := by
    intro m
    induction m with
    | zero =>
      intro j hj
      rw [loopC_step]
      rw [decide_eq_false (by omega), cond_false]
      rfl
    | succ m ih =>
      intro j hj
      rw [loopC_step]
      rw [decide_eq_true (by omega), cond_true, idx_at x j (by omega), Option.bind_some, Option.bind_some, decide_eq_false (fun h => h rfl), cond_false, wrapI (by omega) (by omega)]
      exact ih (j + 1) (by omega)
  have h0 := this x.length 0 (by omega)
  have h0 : loopC _ (0 : Int) = _ := h0
  rw [h0]
  rfl
theorem bytes16 (b : List Int) (h : b.length ≤ 140737488351232) : foliolaw16_bytes b = some b := by
  unfold foliolaw16_bytes
  rw [app_of (by simp only [List.length_nil]; omega)]
  rfl
theorem lists_law (b : List Int) (l : List (List UInt8)) (hw : ∀ x ∈ b, 0 ≤ x ∧ x ≤ 255) (hb : b.length ≤ 1048576) (hl : l.length ≤ 1048576) (hs : ∀ s ∈ l, s.length ≤ 1048576) : foliolaw16_CodeLists b l = some true := by
  obtain ⟨r, h1, h2, h3⟩ := lists_eq (wBytes b)
  rw [ints_w hw] at h1 h2
  obtain ⟨q, g1, g2⟩ := reads_all l hl hs
  have hr : r.1.length ≤ 1048576 := by
    rcases h3 with ⟨_, hb2, l2, _, hc, hr⟩ | ⟨_, hr⟩
    · have := (chain_mem hc).1
      rw [hr, List.length_map]; omega
    · rw [hr]; exact Nat.zero_le _
  unfold foliolaw16_CodeLists
  rw [bytes16 b (by omega), Option.bind_some, h1, Option.bind_some, h2, Option.bind_some, lines_refl r.1 hr, Option.bind_some, Bool.not_true, Bool.not_false, cond_true, decide_eq_false (fun h => h rfl), Bool.not_false, cond_true, decide_eq_false (fun h => h rfl), Bool.not_false, cond_true, awake, Option.bind_some, Bool.not_true, Option.bind_some, cond_false, app_of (by simp only [List.length_nil]; omega), Option.bind_some, List.nil_append, g1, Option.bind_some, g2, Option.bind_some, decide_eq_true rfl, cond_true, decide_eq_true rfl, cond_true, decide_eq_true rfl]
  rfl
theorem sum_mem : ∀ (l : List (List UInt8)) (s : List UInt8), s ∈ l → s.length ≤ (l.map (Sz .str)).sum
  | [], s, h => by cases h
  | x :: r, s, h => by
    rw [List.map_cons, List.sum_cons]
    rcases List.mem_cons.1 h with rfl | h
    · have : Sz .str s = s.length := rfl
      omega
    · have := sum_mem r s h; omega
theorem lists_sz (b : List Int) (l : List (List UInt8)) (hw : Wf (.sl (.int .u8)) b) (hb : Sz (.sl (.int .u8)) b ≤ 1048576) (hl : Sz (.sl .str) l ≤ 1048576) : foliolaw16_CodeLists b l = some true := by
  have h1 : ((b : List Int).map (Sz (.int .u8))).sum + List.length b ≤ 1048576 := hb
  have h2 : (l.map (Sz .str)).sum + List.length l ≤ 1048576 := hl
  exact lists_law b l (fun x hx => hw.2 x hx) (by omega) (by omega) fun s hs => by
    have := sum_mem l s hs
    omega
end Go.Fn
/- Chapter 16, plainly: the law CodeTiles. -/
namespace Go.Fn
open Go Go.Lf

theorem all2_loop {α : Type} (x y : List α) (hx : x.length ≤ 1048577) (hxy : x.length = y.length) (P : α → α → Bool)
    (B : Int → Option (Int ⊕ (Unit ⊕ Bool)))
    (hB : ∀ (j : Nat) (h1 : j < x.length) (h2 : j < y.length), B (j : Int) = if P x[j] y[j] = true then some (.inl ((j + 1 : Nat) : Int)) else some (.inr (.inr false)))
    (hE : B (x.length : Int) = some (.inr (.inl ()))) : ∀ m j : Nat, j + m = x.length →
      ∃ r, loopC B (j : Int) = some r ∧ (r = .inl () ∨ r = .inr false) ∧ (r = .inl () ↔ ∀ (k : Nat) (h1 : k < x.length) (h2 : k < y.length), j ≤ k → P x[k] y[k] = true)
  | 0, j, hj => by
    have : j = x.length := by omega
    subst this
    refine ⟨.inl (), by rw [loopC_step, hE]; rfl, .inl rfl, ⟨fun _ k h1 h2 h3 => absurd h1 (by omega), fun _ => rfl⟩⟩
  | m + 1, j, hj => by
    have h1 : j < x.length := by omega
    have h2 : j < y.length := by omega
    by_cases hp : P x[j] y[j] = true
    · obtain ⟨r, g1, g2, g3⟩ := all2_loop x y hx hxy P B hB hE m (j + 1) (by omega)
      refine ⟨r, by rw [loopC_step, hB j h1 h2, if_pos hp]; exact g1, g2, ?_⟩
      rw [g3]
      refine ⟨fun h k k1 k2 k3 => ?_, fun h k k1 k2 k3 => h k k1 k2 (by omega)⟩
      by_cases e : j = k
      · subst e; exact hp
      · exact h k k1 k2 (by omega)
    · refine ⟨.inr false, by rw [loopC_step, hB j h1 h2, if_neg hp]; rfl, .inr rfl, ⟨(fun h => by cases h), fun h => absurd (h j h1 h2 (Nat.le_refl _)) hp⟩⟩
def isB (x y : List Int) (z1 : Int) : Option (Int ⊕ (Unit ⊕ Bool)) :=
     bif (decide (z1 < (((List.length x) : Nat) : Int))) then ((Go.Lf.idx x z1)).bind fun r2 =>
     ((Go.Lf.idx y z1)).bind fun r3 =>
     bif (decide ((r2 : Int) ≠ r3)) then some (.inr (.inr false))
     else some (.inl (Go.IntKind.wrap .i64 (z1 + (1 : Int))))
     else some (.inr (.inl ()))
theorem ints_same (x y : List Int) (hx : x.length ≤ 1048576) : folioref16_ints x y = some (decide (x = y)) := by
  unfold folioref16_ints
  by_cases hl : x.length = y.length
  · rw [decide_eq_false (by omega), cond_false]
    obtain ⟨r, g1, g2, g3⟩ := all2_loop x y (by omega) hl (fun a b => decide (a = b)) (isB x y) (fun j h1 h2 => by
      unfold isB
      rw [decide_eq_true (by omega), cond_true, idx_at x j h1, Option.bind_some, idx_at y j h2, Option.bind_some, wrapI (by omega) (by omega)]
      by_cases e : x[j] = y[j]
      · rw [decide_eq_false (fun h => h e), cond_false, if_pos (by rw [decide_eq_true e])]
        rfl
      · rw [decide_eq_true e, cond_true, if_neg (by rw [decide_eq_false e]; decide)]) (by unfold isB; rw [decide_eq_false (by omega), cond_false]) x.length 0 (by omega)
    have g1 : loopC (isB x y) (0 : Int) = _ := g1
    show (loopC (isB x y) (0 : Int)).bind _ = _
    rw [g1, Option.bind_some]
    rcases g2 with rfl | rfl
    · have h := g3.1 rfl
      have : x = y := List.ext_getElem hl fun k k1 k2 => of_decide_eq_true (h k k1 k2 (Nat.zero_le _))
      rw [decide_eq_true this]; rfl
    · have : x ≠ y := fun e => by
        subst e
        have := g3.2 fun k k1 k2 _ => decide_eq_true rfl
        cases this
      rw [decide_eq_false this]; rfl
  · rw [decide_eq_true (by omega), cond_true, decide_eq_false (fun e => hl (by rw [e]))]
theorem same_eq (x y : Ins) (hx : x.2.2.2.2.1.length ≤ 1048576) : folioref16_SameInstr x y = some (decide (x = y)) := by
  obtain ⟨x1, x2, x3, x4, x5, ⟨⟩⟩ := x
  obtain ⟨y1, y2, y3, y4, y5, ⟨⟩⟩ := y
  unfold folioref16_SameInstr
  dsimp only at hx ⊢
  by_cases h1 : x1 = y1
  · by_cases h2 : x2 = y2
    · by_cases h3 : x3 = y3
      · by_cases h4 : x4 = y4
        · rw [decide_eq_true h1, cond_true, decide_eq_true h2, cond_true, decide_eq_true h3, cond_true, decide_eq_true h4, cond_true, ints_same x5 y5 hx, Option.bind_some, Option.bind_some]
          subst h1; subst h2; subst h3; subst h4
          by_cases h5 : x5 = y5
          · subst h5
            rw [decide_eq_true rfl, decide_eq_true rfl]
          · rw [decide_eq_false h5, decide_eq_false (by intro e; injection e with _ e; injection e with _ e; injection e with _ e; injection e with _ e; injection e with e _; exact h5 e)]
        · rw [decide_eq_true h1, cond_true, decide_eq_true h2, cond_true, decide_eq_true h3, cond_true, decide_eq_false h4, cond_false, Option.bind_some, decide_eq_false (by intro e; injection e with _ e; injection e with _ e; injection e with _ e; injection e with e _; exact h4 e)]
      · rw [decide_eq_true h1, cond_true, decide_eq_true h2, cond_true, decide_eq_false h3, cond_false, Option.bind_some, decide_eq_false (by intro e; injection e with _ e; injection e with _ e; injection e with e _; exact h3 e)]
    · rw [decide_eq_true h1, cond_true, decide_eq_false h2, cond_false, Option.bind_some, decide_eq_false (by intro e; injection e with _ e; injection e with e _; exact h2 e)]
  · rw [decide_eq_false h1, cond_false, Option.bind_some, decide_eq_false (by intro e; injection e with e _; exact h1 e)]
noncomputable def insB (x y : List Ins) (z1 : Int) : Option (Int ⊕ (Unit ⊕ Bool)) :=
     bif (decide (z1 < (((List.length x) : Nat) : Int))) then ((Go.Lf.idx x z1)).bind fun r2 =>
     ((Go.Lf.idx y z1)).bind fun r3 =>
     ((Go.Fn.folioref16_SameInstr r2 r3)).bind fun r4 =>
     bif (!r4) then some (.inr (.inr false))
     else some (.inl (Go.IntKind.wrap .i64 (z1 + (1 : Int))))
     else some (.inr (.inl ()))
open Classical in
theorem instrs_same (x y : List Ins) (hx : x.length ≤ 1048576) (hw : ∀ i ∈ x, i.2.2.2.2.1.length ≤ 1048576) : foliolaw16_instrs x y = some (decide (x = y)) := by
  unfold foliolaw16_instrs
  by_cases hl : x.length = y.length
  · rw [decide_eq_false (by omega), cond_false]
    obtain ⟨r, g1, g2, g3⟩ := all2_loop x y (by omega) hl (fun a b => decide (a = b)) (insB x y) (fun j h1 h2 => by
      unfold insB
      rw [decide_eq_true (by omega), cond_true, idx_at x j h1, Option.bind_some, idx_at y j h2, Option.bind_some, wrapI (by omega) (by omega), same_eq _ _ (hw _ (List.getElem_mem h1)), Option.bind_some]
      by_cases e : x[j] = y[j]
      · rw [decide_eq_true e, Bool.not_true, cond_false, if_pos rfl]
        rfl
      · rw [decide_eq_false e, Bool.not_false, cond_true, if_neg (by decide)]) (by unfold insB; rw [decide_eq_false (by omega), cond_false]) x.length 0 (by omega)
    have g1 : loopC (insB x y) (0 : Int) = _ := g1
    show (loopC (insB x y) (0 : Int)).bind _ = _
    rw [g1, Option.bind_some]
    rcases g2 with rfl | rfl
    · have h := g3.1 rfl
      have : x = y := List.ext_getElem hl fun k k1 k2 => of_decide_eq_true (h k k1 k2 (Nat.zero_le _))
      rw [decide_eq_true this]; rfl
    · have : x ≠ y := fun e => by
        subst e
        have := g3.2 fun k k1 k2 _ => decide_eq_true rfl
        cases this
      rw [decide_eq_false this]; rfl
  · rw [decide_eq_true (by omega), cond_true, decide_eq_false (fun e => hl (by rw [e]))]
theorem chain_ne {a : Nat} {l : List Ins} {r : List UInt8} (h : Chain a l r) : l ≠ [] := by
  cases h <;> (intro e; cases e)
theorem chain_det {a : Nat} {l : List Ins} {r : List UInt8} (h : Chain a l r) : ∀ {r2 : List UInt8}, Chain a l r2 → r = r2 := by
  induction h with
  | last hg h1 hk =>
    intro r2 h2
    cases h2 with
    | last => rfl
    | more _ _ hk2 hc => exact absurd hk hk2
  | more hg h1 hk hc ih =>
    intro r2 h2
    cases h2 with
    | last _ _ hk2 => exact absurd hk2 hk
    | more _ _ _ hc2 => rw [ih hc2]
theorem next_at {i : Ins} (h : GoodI i) (p r : List UInt8) (hp : i.1 = (p.length : Int)) : nextS (p ++ (encI i ++ r)) i.1 = (i, 0) := by
  have h1 := next_enc h.l p r
  have hl := h.long
  rw [if_neg (fun e => by have := h.t e.1; omega)] at h1
  obtain ⟨i1, i2, i3, i4, i5, ⟨⟩⟩ := i
  have hp : i1 = (p.length : Int) := hp
  have hl : i2 = ((encI (i1, i2, i3, i4, i5, ())).length : Int) := hl
  subst hp
  rw [hl]
  exact h1
/-- the tiles' loop -/
noncomputable def TB (a0 : List Int) (l : List Ins) (z4 : Int × Int) : Option ((Int × Int) ⊕ (Int ⊕ Bool)) :=
     bif (decide (z4.1 < (((List.length l) : Nat) : Int))) then (((Go.Lf.idx l z4.1)).bind fun r5 =>
       bif (!(decide ((r5.1 : Int) ≠ z4.2))) then ((Go.Lf.idx l z4.1)).bind fun r6 =>
       some (decide (r6.2.1 < (1 : Int)))
       else some true).bind fun r7 =>
     bif r7 then some (.inr (.inr false))
     else ((Go.Lf.idx l z4.1)).bind fun r8 =>
     ((Go.Lf.idx l z4.1)).bind fun r9 =>
     bif (decide (((decide ((r9.2.2.1 : Int) = (15 : Int))) : Bool) ≠ (decide ((z4.1 : Int) = (Go.IntKind.wrap .i64 ((((List.length l) : Nat) : Int) - (1 : Int))))))) then some (.inr (.inr false))
     else (some a0 : Option (List Int)).bind fun r10 =>
     ((Go.Lf.idx l z4.1)).bind fun r11 =>
     ((Go.Fn.code_Next r10 r11.1)).bind fun r12 =>
     (bif (!(decide ((r12.2 : Int) ≠ (0 : Int)))) then ((Go.Lf.idx l z4.1)).bind fun r13 =>
       ((Go.Fn.folioref16_SameInstr r12.1 r13)).bind fun r14 =>
       some (!r14)
       else some true).bind fun r15 =>
     bif r15 then some (.inr (.inr false))
     else some (.inl ((Go.IntKind.wrap .i64 (z4.1 + (1 : Int))), (Go.IntKind.wrap .i64 (z4.2 + r8.2.1))))
     else some (.inr (.inl z4.2))
theorem TB_at (b : List UInt8) (hb : b.length ≤ 1048576) (l : List Ins) (hn : l.length ≤ 1048576) {j a : Nat} (hj : j < l.length) (p r : List UInt8) (hp : p.length = a) (hbp : b = p ++ (encI l[j] ++ r)) (hg : GoodI l[j]) (h1 : l[j].1 = (a : Int)) (hk : (l[j].2.2.1 = 15) ↔ j + 1 = l.length) :
    TB (ints b) l ((j : Int), (a : Int)) = some (.inl (((j + 1 : Nat) : Int), ((a + (encI l[j]).length : Nat) : Int))) := by
  have hpos : 0 < (encI l[j]).length := enc_pos _ _ _
  have hlen := congrArg List.length hbp
  rw [List.length_append, List.length_append, hp] at hlen
  have hx := idx_at l j hj
  have hlong := hg.long
  have hnx : nextS b l[j].1 = (l[j], 0) := by
    rw [hbp]
    exact next_at hg p r (by rw [hp]; exact h1)
  have hw := (laid_n hg.l).2.2
  unfold TB
  dsimp only
  rw [decide_eq_true (show (j : Int) < (l.length : Int) by omega), cond_true, hx, Option.bind_some, decide_eq_false (fun h => h h1), Bool.not_false, cond_true, Option.bind_some, Option.bind_some, decide_eq_false (by omega), cond_false, Option.bind_some, Option.bind_some, wrapI (x := (l.length : Int) - 1) (by omega) (by omega)]
  rw [show decide (decide (l[j].2.2.1 = 15) ≠ decide ((j : Int) = (l.length : Int) - 1)) = false by
    apply decide_eq_false
    intro h
    apply h
    by_cases h15 : l[j].2.2.1 = 15
    · rw [decide_eq_true h15, decide_eq_true (by have := hk.1 h15; omega)]
    · rw [decide_eq_false h15, decide_eq_false (fun e => h15 (hk.2 (by omega)))], cond_false, Option.bind_some, Option.bind_some, next_eq b hb, Option.bind_some, hnx]
  dsimp only
  rw [decide_eq_false (fun h => h rfl), Bool.not_false, cond_true, Option.bind_some, same_eq _ _ (by omega), decide_eq_true rfl, Option.bind_some, Bool.not_true, Option.bind_some, cond_false, wrapI (by omega) (by omega), hlong, wrapI (by omega) (by omega)]
  rfl
theorem TB_loop (b : List UInt8) (hb : b.length ≤ 1048576) (l : List Ins) (hn : l.length ≤ 1048576) {a : Nat} {l2 : List Ins} {r2 : List UInt8} (h : Chain a l2 r2) :
    ∀ (j : Nat) (p : List UInt8), j + l2.length = l.length → l.drop j = l2 → p.length = a → b = p ++ r2 → loopC (TB (ints b) l) ((j : Int), (a : Int)) = some (.inl ((b.length : Nat) : Int)) := by
  induction h with
  | @last a i hg h1 hk =>
    intro j p hj hd hp hbp
    simp only [List.length_cons, List.length_nil] at hj
    have hjl : j < l.length := by omega
    have hi : l[j] = i := by
      have := List.drop_eq_getElem_cons hjl
      rw [hd] at this
      injection this with e _
      exact e.symm
    subst hi
    rw [loopC_step, TB_at b hb l hn hjl p [] hp (by rw [List.append_nil]; exact hbp) hg h1 ⟨fun _ => by omega, fun _ => hk⟩]
    have hlen : b.length = a + (encI l[j]).length := by rw [hbp, List.length_append, hp]
    have hj1 : j + 1 = l.length := by omega
    show loopC (TB (ints b) l) (((j + 1 : Nat) : Int), _) = _
    rw [loopC_step, hj1, ← hlen]
    unfold TB
    dsimp only
    rw [decide_eq_false (by omega), cond_false]
    rfl
  | @more a i l2 r2 hg h1 hk hc ih =>
    intro j p hj hd hp hbp
    simp only [List.length_cons] at hj
    have hjl : j < l.length := by omega
    have hcons := List.drop_eq_getElem_cons hjl
    rw [hd] at hcons
    injection hcons with hi hd2
    have hne : 0 < l2.length := List.length_pos_iff.2 (chain_ne hc)
    rw [loopC_step, TB_at b hb l hn hjl p r2 hp (by rw [← hi]; exact hbp) (by rw [← hi]; exact hg) (by rw [← hi]; exact h1) ⟨fun e => absurd (by rw [hi]; exact e) hk, fun e => by omega⟩]
    rw [← hi]
    exact ih (j + 1) (p ++ encI i) (by omega) hd2.symm (by rw [List.length_append, hp]) (by rw [hbp, List.append_assoc])
/-- a listing is read again -/
theorem read_chain (L : List (List UInt8)) (hL : L.length ≤ 65537) {a : Nat} {l2 : List Ins} {r2 : List UInt8} (h : Chain a l2 r2) :
    ∀ (j : Nat) (o : List UInt8), L.drop j = l2.map lineS → o.length = a → o.length ≤ 26 * j → loopC (CB L) ((j : Int), (ints o, (0 : Int))) = some (.inl (ints (o ++ r2), 1)) := by
  induction h with
  | @last a i hg h1 hk =>
    intro j o hd ho hoj
    have hjl : j < L.length := by
      have := congrArg List.length hd
      simp only [List.length_drop, List.length_map, List.length_cons, List.length_nil] at this
      omega
    have hcons := List.drop_eq_getElem_cons hjl
    rw [hd, List.map_cons, List.map_nil] at hcons
    injection hcons with hi hd2
    have hj1 : j + 1 = L.length := by
      have := congrArg List.length hd2
      simp only [List.length_drop, List.length_nil] at this
      omega
    have hr : code_read L[j] ((o.length : Nat) : Int) = some (ints (encI i), true) := by
      rw [← hi]
      have := read_line hg ((o.length : Nat) : Int) (by omega)
      rwa [show ((((o.length : Nat) : Int), i.2) : Ins) = i by rw [ho, ← h1]] at this
    rw [loopC_step, CB_ok hL hjl o 0 hoj hg hr (by omega), if_pos hk]
    show loopC (CB L) (((j + 1 : Nat) : Int), _) = _
    rw [hj1, loopC_step, CB_end hL]
    rfl
  | @more a i l2 r2 hg h1 hk hc ih =>
    intro j o hd ho hoj
    have hjl : j < L.length := by
      have := congrArg List.length hd
      simp only [List.length_drop, List.length_map, List.length_cons] at this
      omega
    have hcons := List.drop_eq_getElem_cons hjl
    rw [hd, List.map_cons] at hcons
    injection hcons with hi hd2
    have hr : code_read L[j] ((o.length : Nat) : Int) = some (ints (encI i), true) := by
      rw [← hi]
      have := read_line hg ((o.length : Nat) : Int) (by omega)
      rwa [show ((((o.length : Nat) : Int), i.2) : Ins) = i by rw [ho, ← h1]] at this
    have he := enc_len hg
    rw [loopC_step, CB_ok hL hjl o 0 hoj hg hr (by omega), if_neg hk]
    have := ih (j + 1) (o ++ encI i) hd2.symm (by rw [List.length_append, ho]) (by rw [List.length_append]; omega)
    rw [List.append_assoc] at this
    exact this
theorem read_list (l : List Ins) (b : List UInt8) (hc : Chain 0 l b) (hL : l.length ≤ 65537) : code_Read (l.map lineS) = some (ints b, (0, 0)) := by
  have h := read_chain (l.map lineS) (by rw [List.length_map]; exact hL) hc 0 [] rfl rfl (Nat.zero_le _)
  have h : loopC (CB (l.map lineS)) ((0 : Int), (([] : List Int), (0 : Int))) = _ := h
  have e1 : code_Read (l.map lineS) = ((loopC (CB (l.map lineS)) ((0 : Int), (([] : List Int), (0 : Int)))).bind fun r9 => onSum r9 (fun a10 =>
 bif (decide ((a10.2 : Int) = (0 : Int))) then some (([] : List (Int)), ((((List.length (l.map lineS)) : Nat) : Int), (162 : Int)))
 else some (a10.1, ((0 : Int), (0 : Int)))) (fun b11 =>
 some (b11.1, (b11.2.1, b11.2.2)))) := by
    unfold code_Read
    rw [decide_eq_false (by rw [List.length_map]; omega), cond_false]
    rfl
  rw [e1, h]
  rfl
open Classical in
theorem tiles_law (b c : List Int) (hb : ∀ x ∈ b, 0 ≤ x ∧ x ≤ 255) (hc : ∀ x ∈ c, 0 ≤ x ∧ x ≤ 255) (hbl : b.length ≤ 140737488351232) (hcl : c.length ≤ 140737488351232) : foliolaw16_CodeTiles b c = some true := by
  obtain ⟨B, rfl⟩ : ∃ B, b = ints B := ⟨wBytes b, (ints_w hb).symm⟩
  obtain ⟨C, rfl⟩ : ∃ C, c = ints C := ⟨wBytes c, (ints_w hc).symm⟩
  obtain ⟨q, h1, _, h3⟩ := instrs_eq B
  unfold foliolaw16_CodeTiles
  rw [awake, Option.bind_some, Bool.not_true, cond_false, bytes16 _ hbl, Option.bind_some, h1, Option.bind_some]
  rcases h3 with ⟨he, hp, hB, hch⟩ | ⟨he, hn⟩
  · have hlen := (chain_mem hch).1
    have hlp := TB_loop B hB q.1 (by omega) hch 0 [] (by omega) rfl rfl rfl
    rw [he, decide_eq_false (fun h => h rfl), cond_false]
    show (loopC (TB (ints B) q.1) ((0 : Int), (0 : Int))).bind _ = _
    have hlp : loopC (TB (ints B) q.1) ((0 : Int), (0 : Int)) = _ := hlp
    rw [hlp, Option.bind_some]
    simp only [onSum]
    obtain ⟨r, g1, _, g3⟩ := lists_eq B
    rw [decide_eq_false (by rw [ints_len]; exact fun h => h rfl), cond_false, Option.bind_some, g1, Option.bind_some]
    have hr : r.2.2 = 0 ∧ r.1 = q.1.map lineS := by
      rcases g3 with ⟨k1, _, l, k2, _, k3⟩ | ⟨k1, _⟩
      · rw [h1] at k2
        injection k2 with k2
        rw [k2]
        exact ⟨k1, k3⟩
      · exfalso
        apply k1
        unfold code_List at g1
        rw [h1, Option.bind_some, he, decide_eq_false (fun h => h rfl), cond_false, list_loop code_line q.1 (by omega) (fun i hi => line_eq (chain_line hch (by omega) i hi)) _ (fun _ => rfl)] at g1
        injection g1 with g1
        rw [← g1]
    rw [hr.1, hr.2, decide_eq_false (fun h => h rfl), Bool.not_false, cond_true, decide_eq_false (by rw [List.length_map]; exact fun h => h rfl), Option.bind_some, cond_false]
    have hread : (bif (decide ((((List.length (q.1.map lineS)) : Nat) : Int) ≤ (65537 : Int))) then ((Go.Fn.code_Read (q.1.map lineS))).bind fun r21 =>
   (bif (!(decide ((r21.2.2 : Int) ≠ (0 : Int)))) then some (decide (((Go.Lf.bytesU r21.1) : List (UInt8)) ≠ (Go.Lf.bytesU (ints B))))
     else some true).bind fun r22 =>
   bif r22 then some (.inl false)
   else some (.inr ())
   else some (.inr ()) : Option ((Bool) ⊕ (Unit))) = some (.inr ()) := by
      by_cases hs : q.1.length ≤ 65537
      · rw [decide_eq_true (by rw [List.length_map]; omega), cond_true, read_list q.1 B hch hs, Option.bind_some, decide_eq_false (fun h => h rfl), Bool.not_false, cond_true, decide_eq_false (fun h => h rfl), Option.bind_some, cond_false]
      · rw [decide_eq_false (by rw [List.length_map]; omega), cond_false]
    rw [hread, Option.bind_some]
    obtain ⟨m, m1, _, m3⟩ := instrs_eq C
    dsimp only
    rw [bytes16 _ hcl, Option.bind_some, m1, Option.bind_some]
    rcases m3 with ⟨me, mp, mB, mch⟩ | ⟨me, mn⟩
    · rw [me, decide_eq_false (fun h => h rfl), Bool.not_false, cond_true]
      by_cases hbc : (Go.Lf.bytesU (ints B)) = (Go.Lf.bytesU (ints C))
      · rw [decide_eq_true hbc]; rfl
      · rw [decide_eq_false hbc, Bool.not_false, cond_true, instrs_same q.1 m.1 (by omega) (fun i hi => by
          have := (laid_n ((chain_mem hch).2 i hi).1.l).2.2
          omega), Option.bind_some, decide_eq_false (fun e => hbc (by rw [← e] at mch; rw [chain_det hch mch]))]
        rfl
    · rw [decide_eq_true me]; rfl
  · rw [decide_eq_true he, cond_true, hn]
    rfl
theorem tiles_wf (b c : List Int) (hb : Wf (.sl (.int .u8)) b) (hc : Wf (.sl (.int .u8)) c) : foliolaw16_CodeTiles b c = some true := by
  have h1 : List.length b * 1 ≤ 140737488351232 := hb.1
  have h2 : List.length c * 1 ≤ 140737488351232 := hc.1
  exact tiles_law b c (fun x hx => hb.2 x hx) (fun x hx => hc.2 x hx) (by omega) (by omega)
end Go.Fn
