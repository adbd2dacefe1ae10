/- The library's functions, as entries. -/
import Derived.Test.YtkfcinmgebhbhaaDoorQLib
import Derived.Test.YtkfcinmgebhbhaaDoorQLibE
import Derived.KernelRfl
import Derived.Lib.SmallJoins
namespace Go.Fn
open Go Go.Lf Go.Eng Go.RowKit Go.Proofs Go.Shelf

/-- what the world holds -/
def GG (w : World) : Prop := Lib.TabIs Tryd.prog w "internal/strconv.uint64pow10" .u64 Lib.pow10Tab ∧ w.ShapedOpen Tryd.prog ∧ (∃ t p, w.var? Tryd.prog "strconv.ErrSyntax" = some #[.iface t p]) ∧ ∃ t p, w.var? Tryd.prog "strconv.ErrRange" = some #[.iface t p]

def strconv_Itoa (n : Int) : Option (List UInt8) := if -9223372036854775808 ≤ n ∧ n ≤ 9223372036854775807 then some (Lib.itoa n) else none
def strconv_Atoi (s : List UInt8) : Option (Int × Option Unit) := if s.length ≤ 140737488355328 then some (match Lib.atoiAll s with | .ok v => (v, none) | .range => (Lib.atoiSat s, some ()) | _ => (0, some ())) else none
def strings_Cut (s t : List UInt8) : Option (List UInt8 × List UInt8 × Bool) := if s.length < 4294967281 then some (Lib.cut s t) else none
def strings_FieldsFunc (s : List UInt8) (_ : Unit) : Option (List (List UInt8)) := if s.length ≤ 4294967296 then some ((Lib.goFieldsP (fun r => decide ((r : Int) = 32)) ⟨s.toArray⟩).map (·.data.toList)) else none
def strconv_ItoaEnt : Nat × Entry := (57, ⟨[.val (.int .i64)], [.str], fun z => strconv_Itoa z⟩)
def strconv_AtoiEnt : Nat × Entry := (60, ⟨[.val .str], [.int .i64, .eb 111 .unit], fun z => strconv_Atoi z⟩)
def strings_CutEnt : Nat × Entry := (47, ⟨[.val .str, .val .str], [.str, .str, .bool], fun z => strings_Cut z.1 z.2⟩)
def strings_FieldsFuncEnt : Nat × Entry := (45, ⟨[.val .str, .cfn 46], [.sl .str], fun z => strings_FieldsFunc z.1 z.2⟩)

theorem below_growN {w : World} (k : Nat) (os : Array Obj) : Below w.heap.size w (Go.Sort.grow (w.drewN k) os) :=
  ⟨rfl, rfl, rfl, by show w.heap.size ≤ (w.heap ++ os).size; rw [Array.size_append]; omega, fun j hj => Go.Sort.heap_grow_old (w.drewN k) os hj⟩
theorem below_drawn {w : World} (n : Nat) : Below w.heap.size w (w.drewN n) := ⟨rfl, rfl, rfl, Nat.le_refl _, fun _ _ => rfl⟩

theorem strconv_Itoa_ok : EntryOk Tryd.prog GG 57 strconv_ItoaEnt.2 := by
  refine ent_calls (ps := [.val (.int .i64)]) (rs := [.str]) (GoFn.mk Tryd.f57 (by kernel_rfl) (by kernel_rfl) (by kernel_rfl)) (by simp [Ty.top]) rfl fun z r w φ vals gs hs hz hG ha => ?_
  have hz : strconv_Itoa z = some r := hz
  unfold strconv_Itoa at hz
  split at hz
  case isFalse => cases hz
  case isTrue h01 =>
  injection hz with hz
  subst hz
  cases ha with
  | val h1 h2 h3 =>
  cases h3
  obtain ⟨rfl, _⟩ := h2
  refine (Tryd.strconv_Itoa z h01.1 h01.2 w hG.1).mono ?_
  rintro e w' ⟨rfl, k, os, rfl⟩
  exact ⟨⟨[Eng.str (Lib.itoa z)], rfl, TupR.cons (t := .str) (x := Lib.itoa z) (cs := [_]) (h := []) (hs := []) rfl ⟨rfl, rfl⟩ .nil⟩, below_growN k os⟩
theorem strings_Cut_ok : EntryOk Tryd.prog GG 47 strings_CutEnt.2 := by
  refine ent_calls (ps := [.val .str, .val .str]) (rs := [.str, .str, .bool]) (GoFn.mk Tryd.f47 (by kernel_rfl) (by kernel_rfl) (by kernel_rfl)) (by simp [Ty.top]) rfl fun z r w φ vals gs hs hz hG ha => ?_
  have hz : strings_Cut z.1 z.2 = some r := hz
  unfold strings_Cut at hz
  split at hz
  case isFalse => cases hz
  case isTrue h01 =>
  injection hz with hz
  subst hz
  cases ha with
  | val h1 h2 h3 =>
  cases h3 with
  | val h4 h5 h6 =>
  cases h6
  obtain ⟨rfl, _⟩ := h2
  obtain ⟨rfl, _⟩ := h5
  obtain ⟨s, t⟩ := z
  have h01 : s.length < 4294967281 := h01
  refine (Tryd.strings_Cut_shaped ⟨s.toArray⟩ ⟨t.toArray⟩ w hG.2.1 (Nat.lt_of_le_of_lt (Nat.le_of_eq (Eng.str_size s)) h01)).mono ?_
  rintro e w' ⟨rfl, n, rfl⟩
  refine ⟨⟨[Eng.str (Lib.cut s t).1, Eng.str (Lib.cut s t).2.1, .bool (Lib.cut s t).2.2], rfl, ?_⟩, below_drawn n⟩
  exact TupR.cons (t := .str) (cs := [_]) (h := []) (hs := []) rfl ⟨rfl, rfl⟩ (TupR.cons (t := .str) (cs := [_]) (h := []) (hs := []) rfl ⟨rfl, rfl⟩ (TupR.cons (t := .bool) (cs := [_]) (h := []) (hs := []) rfl ⟨rfl, rfl⟩ .nil))
theorem strconv_Atoi_ok : EntryOk Tryd.prog GG 60 strconv_AtoiEnt.2 := by
  refine ent_calls (ps := [.val .str]) (rs := [.int .i64, .eb 111 .unit]) (GoFn.mk Tryd.f60 (by kernel_rfl) (by kernel_rfl) (by kernel_rfl)) (by simp [Ty.top]) rfl fun z r w φ vals gs hs hz hG ha => ?_
  have hz : strconv_Atoi z = some r := hz
  unfold strconv_Atoi at hz
  split at hz
  case isFalse => cases hz
  case isTrue h01 =>
  injection hz with hz
  cases ha with
  | val h1 h2 h3 =>
  cases h3
  obtain ⟨rfl, _⟩ := h2
  have hsz : (⟨List.toArray z⟩ : ByteArray).size ≤ 140737488355328 := Nat.le_trans (Nat.le_of_eq (Eng.str_size z)) h01
  obtain ⟨t1, p1, hv1⟩ := hG.2.2.1
  obtain ⟨t2, p2, hv2⟩ := hG.2.2.2
  have err : ∀ (n : Int) (N : Nat), TupR φ [⟨.int .i64, n⟩, ⟨.eb 111 .unit, some ()⟩] [.int .i64 n, .iface 111 (.pointer (some ⟨N, 0, none⟩))] [] := fun n N =>
    TupR.cons (t := .int .i64) (cs := [_]) (h := []) (hs := []) rfl ⟨rfl, rfl⟩ (TupR.cons (t := .eb 111 .unit) (x := some ()) (cs := [.iface 111 (.pointer (some ⟨N, 0, none⟩))]) (h := []) (hs := []) rfl ⟨rfl, ⟨N, 0, none⟩, [], rfl, ⟨rfl, rfl⟩, fun j v hv => by simp at hv⟩ .nil)
  cases h : Lib.atoiAll (show List UInt8 from z)
  · rename_i v
    have hz : (v, none) = r := by rw [show Lib.atoiAll z = _ from h] at hz; exact hz
    subst hz
    refine (Tryd.strconv_Atoi_ok ⟨List.toArray z⟩ (Nat.le_trans hsz (by decide)) v h w).mono ?_
    rintro e w' ⟨rfl, hw⟩
    refine ⟨⟨[.int .i64 v, .nilIface], rfl, TupR.cons (t := .int .i64) (cs := [_]) (h := []) (hs := []) rfl ⟨rfl, rfl⟩ (TupR.cons (t := .eb 111 .unit) (x := none) (cs := [.nilIface]) (h := []) (hs := []) rfl ⟨rfl, rfl⟩ .nil)⟩, ?_⟩
    rcases hw with rfl | ⟨t, rfl⟩
    · exact Below.refl _ _
    · exact Go.Joins.below_bytesWorld _ _ _ _ (Nat.le_refl _)
  · have hz : (0, some ()) = r := by rw [show Lib.atoiAll z = _ from h] at hz; exact hz
    subst hz
    refine (Any.strconv_Atoi_syntax_var Tryd.laysC172 ⟨List.toArray z⟩ (Nat.le_trans hsz (by decide)) h t1 p1 w hv1).mono ?_
    rintro e w' ⟨N, rfl, _, _, hb2⟩
    exact ⟨⟨_, rfl, err 0 N⟩, hb2⟩
  · have hz : (Lib.atoiSat z, some ()) = r := by rw [show Lib.atoiAll z = _ from h] at hz; exact hz
    subst hz
    refine (Tryd.strconv_Atoi_range_var ⟨List.toArray z⟩ (Nat.le_trans hsz (by decide)) h t2 p2 w hv2).mono ?_
    rintro e w' ⟨N, rfl, _, _, hb2⟩
    exact ⟨⟨_, rfl, err _ N⟩, hb2⟩
theorem isBlank (w : World) : PredAt Tryd.prog 46 #[] encR (fun r => decide ((r : Int) = 32)) w := fun W r _ => by
  unfold FnGives
  go_enter Tryd.func46, Tryd.ntmps46
  go_wp2
  go_ret
  exact ⟨rfl, 0, rfl⟩
theorem strings_FieldsFunc_ok : EntryOk Tryd.prog GG 45 strings_FieldsFuncEnt.2 := by
  refine ent_row (ps := [.val .str, .cfn 46]) (t := .str) (el := 9) (GoFn.mk Tryd.f45 (by kernel_rfl) (by kernel_rfl) (by kernel_rfl)) (by simp [Ty.top]) rfl fun z r w φ vals gs hs hz hG ha => ?_
  have hz : strings_FieldsFunc z.1 z.2 = some r := hz
  unfold strings_FieldsFunc at hz
  split at hz
  case isFalse => cases hz
  case isTrue h01 =>
  injection hz with hz
  subst hz
  cases ha with
  | val h1 h2 h3 =>
  cases h3 with
  | cfn h4 =>
  cases h4
  obtain ⟨rfl, _⟩ := h2
  obtain ⟨s, u⟩ := z
  have h01 : s.length ≤ 4294967296 := h01
  refine (Tryd.strings_FieldsFunc 46 #[] (enters_of Tryd.func46 (by kernel_rfl) rfl) _ ⟨s.toArray⟩ w (Nat.le_trans (Nat.le_of_eq (Eng.str_size s)) h01) (isBlank w)).mono ?_
  rintro e w' ⟨A, rfl, _, hrow, hb⟩
  refine ⟨⟨(Lib.goFieldsP (fun r => decide ((r : Int) = 32)) ⟨s.toArray⟩).map (·.data.toList), ⟨A, 0, none⟩, (Lib.goFieldsP (fun r => decide ((r : Int) = 32)) ⟨s.toArray⟩).map (fun b => [Value.string b]), rfl, by rw [List.length_map], ?_, ?_⟩, hb⟩
  · generalize Lib.goFieldsP (fun r => decide ((r : Int) = 32)) ⟨s.toArray⟩ = l
    induction l with
    | nil => exact .nil
    | cons b r ih => exact .cons ⟨by simp [Eng.str], rfl⟩ ih
  · rw [List.length_map]
    have : ((Lib.goFieldsP (fun r => decide ((r : Int) = 32)) ⟨s.toArray⟩).map (fun b => [Value.string b])).flatten = (Lib.goFieldsP (fun r => decide ((r : Int) = 32)) ⟨s.toArray⟩).map Value.string := by
      generalize Lib.goFieldsP (fun r => decide ((r : Int) = 32)) ⟨s.toArray⟩ = l
      induction l with
      | nil => rfl
      | cons b r ih => simp [ih]
    rw [this]
    exact hrow
end Go.Fn
