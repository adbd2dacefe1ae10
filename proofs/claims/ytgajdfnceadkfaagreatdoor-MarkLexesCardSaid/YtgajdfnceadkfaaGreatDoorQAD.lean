/- text.Plain, walked. -/
import Derived.Test.YtgajdfnceadkfaaGreatDoorQAC
import Derived.Lib.TrimU
import Derived.KernelRfl
import Derived.Lib.SmallJoins
import Derived.Shelf.Strings.SlTrimAscii
import Derived.Test.YtgajdfnceadkfaaGreatDoorProg
namespace Go.Fn
open Go Go.Proofs Go.Shelf Go.RowKit

def ctlB (r : Int) : Bool := decide (r < 32) || (decide (127 ≤ r) && decide (r ≤ 159))
set_option maxHeartbeats 1000000 in
set_option maxRecDepth 100000 in
theorem control_walk (r : Int) (w : World) : Calls Tryz.prog 73 #[.int .i32 r] w fun e w' => e = .returned (.bool (ctlB r)) ∧ w' = w := by
  have t21 := Tryz.underlying21; have a21 := Tryz.isAgg21; have z21 := Tryz.sizeOf21; have v21 := Tryz.zeroValue21; have u21 := run_underlying Tryz.underlying21
  have t4 := Tryz.underlying4; have a4 := Tryz.isAgg4; have z4 := Tryz.sizeOf4; have v4 := Tryz.zeroValue4; have u4 := run_underlying Tryz.underlying4
  go_enter Tryz.func73, Tryz.ntmps73
  go_wp2
  all_goals go_ret
  all_goals refine ⟨?_, rfl⟩
  all_goals (first | (simp_all [ctlB]; done) | (simp_all [ctlB]; omega))
def badB (s : ByteArray) (p : Nat) : Bool := decide (((Lib.decodeGo (s.extract p s.size)).1 : Int) = 65533) && (((Lib.decodeGo (s.extract p s.size)).2 : Int) == 1)
set_option maxHeartbeats 1000000 in
set_option maxRecDepth 100000 in
theorem bad_walk (s : ByteArray) (p : Nat) (w : World) (hT : Lib.Utf8Tabs 1 2 w) (hp : p ≤ s.size) : Calls Tryz.prog 74 #[.string s, .int .i64 p] w fun e w' => e = .returned (.bool (badB s p)) ∧ Below w.heap.size w w' := by
  have t9 := Tryz.underlying9; have a9 := Tryz.isAgg9; have z9 := Tryz.sizeOf9; have v9 := Tryz.zeroValue9; have u9 := run_underlying Tryz.underlying9
  have t3 := Tryz.underlying3; have a3 := Tryz.isAgg3; have z3 := Tryz.sizeOf3; have v3 := Tryz.zeroValue3; have u3 := run_underlying Tryz.underlying3
  have t21 := Tryz.underlying21; have a21 := Tryz.isAgg21; have z21 := Tryz.sizeOf21; have v21 := Tryz.zeroValue21; have u21 := run_underlying Tryz.underlying21
  have t4 := Tryz.underlying4; have a4 := Tryz.isAgg4; have z4 := Tryz.sizeOf4; have v4 := Tryz.zeroValue4; have u4 := run_underlying Tryz.underlying4
  have t76 := Tryz.underlying126; have a76 := Tryz.isAgg126; have z76 := Tryz.sizeOf126; have u76 := run_underlying Tryz.underlying126
  go_enter Tryz.func74, Tryz.ntmps74
  go_wp2_with (go_at_call 77; refine (Tryz.utf8_DecodeRuneInString _ _ hT).mono ?_)
  rintro e W1 ⟨rfl, b1⟩
  go_wp2
  all_goals go_ret
  all_goals refine ⟨?_, b1⟩
  all_goals simp_all [badB]
theorem tabs_below {w w' : World} (h : Lib.Utf8Tabs 1 2 w) (hb : Below w.heap.size w w') : Lib.Utf8Tabs 1 2 w' := by
  have key : ∀ (g o : Nat) (v : Value), w.cell? ⟨g, o, none⟩ = some v → w'.cell? ⟨g, o, none⟩ = some v := fun g o v hv => by
    have hlt : g < w.heap.size := by
      rcases Nat.lt_or_ge g w.heap.size with h1 | h1
      · exact h1
      · simp [World.cell?, Array.getElem?_eq_none h1] at hv
    obtain ⟨_, _, _, _, h5⟩ := hb
    have := h5 g hlt
    unfold World.cell? at hv ⊢
    rw [this]
    exact hv
  exact ⟨fun c hc => key _ _ _ (h.1 c hc), fun i hi => ⟨key _ _ _ (h.2 i hi).1, key _ _ _ (h.2 i hi).2⟩⟩
def plainF (s : ByteArray) : Nat → Nat → Int × Bool
  | 0, _ => (0, true)
  | f + 1, p => if p < s.size then (if ctlB ((Utf8.decode s p).1 : Int) || (decide (((Utf8.decode s p).1 : Int) = 65533) && badB s p) then ((p : Int), false) else plainF s f (p + (Utf8.decode s p).2)) else (0, true)
theorem plainF_end (s : ByteArray) (f p : Nat) (h : ¬ p < s.size) : plainF s f p = (0, true) := by
  cases f with
  | zero => rfl
  | succ f => simp [plainF, h]
set_option maxHeartbeats 4000000 in
set_option maxRecDepth 1000000 in
theorem plain_walk (s : ByteArray) (w : World) (hT : Lib.Utf8Tabs 1 2 w) (hs : s.size ≤ 140737488355328) :
    Calls Tryz.prog 42 #[.string s] w fun e w' => e = .returned (.tuple #[.int .i64 (plainF s s.size 0).1, .bool (plainF s s.size 0).2]) ∧ Below w.heap.size w w' := by
  have t9 := Tryz.underlying9; have a9 := Tryz.isAgg9; have z9 := Tryz.sizeOf9; have v9 := Tryz.zeroValue9; have u9 := run_underlying Tryz.underlying9
  have t3 := Tryz.underlying3; have a3 := Tryz.isAgg3; have z3 := Tryz.sizeOf3; have v3 := Tryz.zeroValue3; have u3 := run_underlying Tryz.underlying3
  have t21 := Tryz.underlying21; have a21 := Tryz.isAgg21; have z21 := Tryz.sizeOf21; have v21 := Tryz.zeroValue21; have u21 := run_underlying Tryz.underlying21
  have t4 := Tryz.underlying4; have a4 := Tryz.isAgg4; have z4 := Tryz.sizeOf4; have v4 := Tryz.zeroValue4; have u4 := run_underlying Tryz.underlying4
  go_enter Tryz.func42, Tryz.ntmps42
  go_wp2
  go_loopw [] (fun wr => ∃ (pos fuel : Nat), wr.heap[w.heap.size]? = some (.stringIter s pos) ∧ Below w.heap.size w wr ∧ plainF s fuel pos = plainF s s.size 0 ∧ s.size ≤ pos + fuel) (fun wr => s.size - wr.iterPos w.heap.size)
  case atStart =>
    refine ⟨0, s.size, ?_, (Below.refl _ w).alloc (Nat.le_refl _) _, rfl, by omega⟩
    exact World.iter_heap w s 0
  case round =>
    obtain ⟨pos, fuel, hit, hbw, hacc, hfu⟩ := hrel
    by_cases hp : pos < s.size
    · have hnx : ∀ ty, (Instr.next (.pointer (some ⟨w.heap.size, 0, none⟩)) true ty).run Tryz.prog wr = _ := fun ty => Lib.run_next_any_at wr w.heap.size s pos ty hit hp
      have hwd := Lib.width_pos s pos
      have hit2 := Lib.iterAt_heap wr w.heap.size s pos (pos + (Utf8.decode s pos).2) hit
      have hbw2 := Lib.below_iterAt hbw (k := w.heap.size) (by omega) s (pos + (Utf8.decode s pos).2)
      have hTb := tabs_below hT hbw2
      obtain ⟨f, rfl⟩ : ∃ f, fuel = f + 1 := ⟨fuel - 1, by omega⟩
      cases hc : ctlB ((Utf8.decode s pos).1 : Int) with
      | true =>
        have hF : plainF s s.size 0 = ((pos : Int), false) := by rw [← hacc]; simp [plainF, hp, hc]
        go_wp2_with (go_at_call 73; refine (control_walk _ _).mono ?_)
        rintro e W1 ⟨rfl, rfl⟩
        rw [hc]
        go_wp2
        go_ret2
        rw [hF]
        exact ⟨rfl, hbw2⟩
      | false =>
        go_wp2_with (go_at_call 73; refine (control_walk _ _).mono ?_)
        rintro e W1 ⟨rfl, rfl⟩
        rw [hc]
        by_cases hr : ((Utf8.decode s pos).1 : Int) = 65533
        · cases hbd : badB s pos with
          | true =>
            have hF : plainF s s.size 0 = ((pos : Int), false) := by rw [← hacc]; simp [plainF, hp, hc, hr, hbd]
            go_wp2_with (go_at_call 74; refine (bad_walk s pos _ hTb (Nat.le_of_lt hp)).mono ?_)
            rintro e W2 ⟨rfl, b2⟩
            have b3 : Below w.heap.size _ W2 := (by obtain ⟨h1, h2, h3, h4, h5⟩ := b2; exact ⟨h1, h2, h3, h4, fun j hj => h5 j (Nat.lt_of_lt_of_le hj hbw2.size)⟩ : Below w.heap.size (wr.iterAt w.heap.size s (pos + (Utf8.decode s pos).2)) W2)
            rw [hbd]
            go_wp2
            go_ret2
            rw [hF]
            exact ⟨rfl, hbw2.trans b3⟩
          | false =>
            go_wp2_with (go_at_call 74; refine (bad_walk s pos _ hTb (Nat.le_of_lt hp)).mono ?_)
            rintro e W2 ⟨rfl, b2⟩
            have b3 : Below w.heap.size _ W2 := (by obtain ⟨h1, h2, h3, h4, h5⟩ := b2; exact ⟨h1, h2, h3, h4, fun j hj => h5 j (Nat.lt_of_lt_of_le hj hbw2.size)⟩ : Below w.heap.size (wr.iterAt w.heap.size s (pos + (Utf8.decode s pos).2)) W2)
            rw [hbd]
            have hit3 : W2.heap[w.heap.size]? = some (.stringIter s (pos + (Utf8.decode s pos).2)) := by
              obtain ⟨_, _, _, _, h5⟩ := b2
              rw [h5 _ (Array.getElem?_eq_some_iff.1 hit2).1]
              exact hit2
            go_wp2
            go_roundw
            case rel =>
              exact ⟨pos + (Utf8.decode s pos).2, f, hit3, hbw2.trans b3, by rw [← hacc]; simp [plainF, hp, hc, hbd], by omega⟩
            case measure =>
              simp only [World.iterPos, hit3, hit]
              omega
        · go_wp2
          go_roundw
          case rel =>
            exact ⟨pos + (Utf8.decode s pos).2, f, hit2, hbw2, by rw [← hacc]; simp [plainF, hp, hc, hr], by omega⟩
          case measure =>
            simp only [World.iterPos, hit2, hit]
            omega
    · have hnx : ∀ ty, (Instr.next (.pointer (some ⟨w.heap.size, 0, none⟩)) true ty).run Tryz.prog wr = _ := fun ty => Lib.run_next_end_at wr w.heap.size s pos ty hit hp
      go_wp2
      go_ret2
      rw [plainF_end s fuel pos hp] at hacc
      rw [← hacc]
      exact ⟨rfl, hbw⟩
end Go.Fn
/-
  From a contract of the library to an entry.
-/
namespace Go.Lf
open Go Go.Eng Go.RowKit

theorem argsR_gs {φ : Phi} {ps : List Par} {z : prodT (ps.map Par.ty)} {vals : List Value} {gs : List (Nat × Nat)} {hs : List Chunk} (h : ArgsR φ ps z vals gs hs) (ho : outs ps = []) : gs = [] := by
  induction h with
  | nil => rfl
  | val _ _ _ ih => exact ih ho
  | cfn _ ih => exact ih ho
  | obj _ _ _ => simp [outs] at ho
theorem hb_below {C : Cx} {w w' : World} {I : World → Prop} (hb : Hb C w [] I) (h : Below w.heap.size w w') : Hb C w' [] I :=
  hb.grow ⟨h.os, h.tape, h.output, h.size, fun k hk _ _ => h.block k hk, fun k m hk _ _ => Same.of_block (h.block k hk), fun c hc => (by cases hc)⟩
section
variable {P : Program} {G : World → Prop} {f : Nat} {ps : List Par} {rs : List Ty} {F : prodT (ps.map Par.ty) → Option (prodT (rs ++ outs ps))}
theorem drop_obs (ho : outs ps = []) (r : prodT (rs ++ outs ps)) : (unProd (rs ++ outs ps) r).drop rs.length = [] := by
  refine List.drop_eq_nil_of_le ?_
  have := congrArg List.length (unProd_tys (rs ++ outs ps) r)
  simp [ho] at this
  omega
/-- results that lean on no memory -/
theorem ent_calls (go : GoFn P f) (top : ∀ t, Par.val t ∈ ps → t.top = true) (ho : outs ps = [])
    (h : ∀ z r w φ vals gs hs, F z = some r → G w → ArgsR φ ps z vals gs hs → Calls P f vals.toArray w fun e w' => (∃ vs, e = .returned (resVal vs) ∧ TupR φ ((unProd (rs ++ outs ps) r).take rs.length) vs []) ∧ Below w.heap.size w w') : EntryOk P G f ⟨ps, rs, F⟩ := by
  refine ⟨go, top, fun z r hz C φ vals gs hs ha hb => ?_⟩
  have hb0 : Hb C C.w0 [] (Inv G φ) := (Sub.nil hs).hb hb
  refine (h z r C.w0 φ vals gs hs hz hb.get.1 ha).mono ?_
  rintro e w' ⟨⟨vs, rfl, ht⟩, hbl⟩
  have hg := argsR_gs ha ho
  subst hg
  refine ⟨_, φ, [], [], rfl, φ.le_refl, hb_below hb0 hbl, ⟨vs, ht, rfl⟩, ?_⟩
  rw [drop_obs ho]
  exact .nil
/-- one result: a new slice -/
theorem ent_row {t : Ty} {el : Nat} {F : prodT (ps.map Par.ty) → Option (prodT ([.sl t] ++ outs ps))} (go : GoFn P f) (top : ∀ t, Par.val t ∈ ps → t.top = true) (ho : outs ps = [])
    (h : ∀ z r w φ vals gs hs, F z = some r → G w → ArgsR φ ps z vals gs hs → Calls P f vals.toArray w fun e w' => (∃ (l : List t.den) (A : Addr) (css : List (List Value)), (unProd ([.sl t] ++ outs ps) r).take 1 = [⟨.sl t, l⟩] ∧ e = .returned (.slice (some A) l.length l.length) ∧ All2 (fun x cs => Rp φ t x cs []) l css ∧
      w'.ownsRow w.heap.size el t.size (.slice (some A) l.length l.length) l.length css.flatten) ∧ Below w.heap.size w w') : EntryOk P G f ⟨ps, [.sl t], F⟩ := by
  refine ⟨go, top, fun z r hz C φ vals gs hs ha hb => ?_⟩
  have hb0 : Hb C C.w0 [] (Inv G φ) := (Sub.nil hs).hb hb
  refine (h z r C.w0 φ vals gs hs hz hb.get.1 ha).mono ?_
  rintro e w' ⟨⟨l, A, css, hl, rfl, hall, hrow⟩, hbl⟩
  have hg := argsR_gs ha ho
  subst hg
  have hlt := World.ownsRow.lt hrow
  have hb1 : Hb C w' [.row false (.slice (some A) l.length l.length) el t.size l.length css.flatten] (Inv G φ) := by
    refine hb0.step ⟨hbl.os, hbl.tape, hbl.output, hbl.size, fun k hk _ _ => hbl.block k hk, fun k m hk _ _ => Same.of_block (hbl.block k hk), fun c hc => (by cases hc)⟩ (fun c hc => ?_) (fun c hc g hg => ?_) ?_ fun c hc => (by cases hc)
    · have : c = _ := List.mem_singleton.1 hc
      subst this
      refine ⟨hrow.1, ?_⟩
      rcases hrow.2 with h2 | ⟨g, cap, cur, hv, hg, r⟩
      · exact .inl h2
      · exact .inr ⟨g, cap, cur, hv, Nat.zero_le _, r⟩
    · have : c = _ := List.mem_singleton.1 hc
      subst this
      exact .inr (hlt g hg).1
    · exact List.pairwise_singleton _ _
  obtain ⟨φ', f1, f2, f3⟩ := freeze_row hb1
  refine ⟨_, φ', [], [], rfl, f1, f3, ⟨[.slice (some A) l.length l.length], ?_, rfl⟩, ?_⟩
  · show TupR φ' ((unProd ([.sl t] ++ outs ps) r).take 1) _ _
    rw [hl]
    exact TupR.cons (t := .sl t) (x := l) (cs := [.slice (some A) l.length l.length]) (h := []) (hs := []) rfl ⟨some A, l.length, css, rfl, Nat.le_refl _, hall.imp fun _ _ h => h.mono f1, f2, rfl⟩ .nil
  · have : (unProd ([.sl t] ++ outs ps) r).drop ([Ty.sl t]).length = [] := drop_obs (rs := [.sl t]) ho r
    show ObsR φ' [] ((unProd ([.sl t] ++ outs ps) r).drop ([Ty.sl t]).length) []
    rw [this]
    exact .nil
end
end Go.Lf
/- The library's functions, and two of the program's own that were walked, as entries. -/
namespace Go.Fn
open Go Go.Lf Go.Eng Go.RowKit Go.Proofs Go.Shelf

/-- what the world holds -/
def GG (w : World) : Prop := Lib.Utf8Tabs 1 2 w ∧ w.ShapedOpen Tryz.prog
theorem below_drawn {w : World} (n : Nat) : Below w.heap.size w (w.drewN n) := ⟨rfl, rfl, rfl, Nat.le_refl _, fun _ _ => rfl⟩
def mark_Escape (a0 : List UInt8) : Option (List UInt8) := if a0.length ≤ 70368744177664 then some (escN a0 a0.length) else none
def mark_EscapeEnt : Nat × Entry := (19, ⟨[.val .str], [.str], fun z => mark_Escape z⟩)
theorem mark_Escape_ok : EntryOk Tryz.prog GG 19 mark_EscapeEnt.2 := by
  refine ent_calls (ps := [.val .str]) (rs := [.str]) (GoFn.mk Tryz.f19 (by kernel_rfl) (by kernel_rfl) (by kernel_rfl)) (by simp [Ty.top]) rfl fun (a0 : List UInt8) r w φ vals gs hs hz hG ha => ?_
  have hz : mark_Escape a0 = some r := hz
  unfold mark_Escape at hz
  split at hz
  case isFalse => cases hz
  case isTrue hC =>
  injection hz with hz
  subst hz
  cases ha with
  | val h01 h02 h03 =>
  cases h03
  obtain ⟨rfl, _⟩ := h02
  refine (esc_walk ⟨a0.toArray⟩ w (Nat.le_trans (Nat.le_of_eq (Eng.str_size a0)) hC)).mono ?_
  rintro e w' ⟨rfl, hb⟩
  exact ⟨⟨[Eng.str (escN a0 a0.length)], rfl, (TupR.cons (t := .str) (cs := [_]) (h := []) (hs := []) rfl ⟨rfl, rfl⟩ .nil)⟩, hb⟩
def text_Plain (a0 : List UInt8) : Option (Int × Bool) := if a0.length ≤ 140737488355328 then some (plainF ⟨a0.toArray⟩ a0.length 0) else none
def text_PlainEnt : Nat × Entry := (42, ⟨[.val .str], [.int .i64, .bool], fun z => text_Plain z⟩)
theorem text_Plain_ok : EntryOk Tryz.prog GG 42 text_PlainEnt.2 := by
  refine ent_calls (ps := [.val .str]) (rs := [.int .i64, .bool]) (GoFn.mk Tryz.f42 (by kernel_rfl) (by kernel_rfl) (by kernel_rfl)) (by simp [Ty.top]) rfl fun (a0 : List UInt8) r w φ vals gs hs hz hG ha => ?_
  have hz : text_Plain a0 = some r := hz
  unfold text_Plain at hz
  split at hz
  case isFalse => cases hz
  case isTrue hC =>
  injection hz with hz
  subst hz
  cases ha with
  | val h01 h02 h03 =>
  cases h03
  obtain ⟨rfl, _⟩ := h02
  refine (plain_walk ⟨a0.toArray⟩ w hG.1 (Nat.le_trans (Nat.le_of_eq (Eng.str_size a0)) hC)).mono ?_
  rintro e w' ⟨rfl, hb⟩
  exact ⟨⟨[.int .i64 ((plainF ⟨a0.toArray⟩ a0.length 0).1), .bool ((plainF ⟨a0.toArray⟩ a0.length 0).2)], rfl, (TupR.cons (t := .int .i64) (cs := [_]) (h := []) (hs := []) rfl ⟨rfl, rfl⟩ (TupR.cons (t := .bool) (cs := [_]) (h := []) (hs := []) rfl ⟨rfl, rfl⟩ .nil))⟩, hb⟩
def strings_IndexByte (a0 : List UInt8) (a1 : Int) : Option (Int) := if True then some (Lib.indexByte a0 a1.toNat.toUInt8) else none
def strings_IndexByteEnt : Nat × Entry := (37, ⟨[.val .str, .val (.int .u8)], [.int .i64], fun z => strings_IndexByte z.1 z.2⟩)
theorem strings_IndexByte_ok : EntryOk Tryz.prog GG 37 strings_IndexByteEnt.2 := by
  refine ent_calls (ps := [.val .str, .val (.int .u8)]) (rs := [.int .i64]) (GoFn.mk Tryz.f37 (by kernel_rfl) (by kernel_rfl) (by kernel_rfl)) (by simp [Ty.top]) rfl fun z r w φ vals gs hs hz hG ha => ?_
  have hz : strings_IndexByte z.1 z.2 = some r := hz
  unfold strings_IndexByte at hz
  split at hz
  case isFalse => cases hz
  case isTrue hC =>
  injection hz with hz
  subst hz
  cases ha with
  | val h01 h02 h03 =>
  cases h03 with
  | val h11 h12 h13 =>
  cases h13
  obtain ⟨rfl, _⟩ := h02
  obtain ⟨rfl, _⟩ := h12
  obtain ⟨(a0 : List UInt8), (a1 : Int)⟩ := z
  refine (Tryz.strings_IndexByte ⟨a0.toArray⟩ a1 w).mono ?_
  rintro e w' ⟨rfl, rfl⟩
  exact ⟨⟨[.int .i64 (Lib.indexByte a0 a1.toNat.toUInt8)], rfl, (TupR.cons (t := .int .i64) (cs := [_]) (h := []) (hs := []) rfl ⟨rfl, rfl⟩ .nil)⟩, Below.refl _ _⟩
def strings_Cut (a0 : List UInt8) (a1 : List UInt8) : Option (List UInt8 × List UInt8 × Bool) := if a0.length < 4294967281 then some (Lib.cut a0 a1) else none
def strings_CutEnt : Nat × Entry := (10, ⟨[.val .str, .val .str], [.str, .str, .bool], fun z => strings_Cut z.1 z.2⟩)
theorem strings_Cut_ok : EntryOk Tryz.prog GG 10 strings_CutEnt.2 := by
  refine ent_calls (ps := [.val .str, .val .str]) (rs := [.str, .str, .bool]) (GoFn.mk Tryz.f10 (by kernel_rfl) (by kernel_rfl) (by kernel_rfl)) (by simp [Ty.top]) rfl fun z r w φ vals gs hs hz hG ha => ?_
  have hz : strings_Cut z.1 z.2 = some r := hz
  unfold strings_Cut at hz
  split at hz
  case isFalse => cases hz
  case isTrue hC =>
  injection hz with hz
  subst hz
  cases ha with
  | val h01 h02 h03 =>
  cases h03 with
  | val h11 h12 h13 =>
  cases h13
  obtain ⟨rfl, _⟩ := h02
  obtain ⟨rfl, _⟩ := h12
  obtain ⟨(a0 : List UInt8), (a1 : List UInt8)⟩ := z
  refine (Tryz.strings_Cut_shaped ⟨a0.toArray⟩ ⟨a1.toArray⟩ w hG.2 (Nat.lt_of_le_of_lt (Nat.le_of_eq (Eng.str_size a0)) hC)).mono ?_
  rintro e w' ⟨rfl, n, rfl⟩
  exact ⟨⟨[Eng.str ((Lib.cut a0 a1).1), Eng.str ((Lib.cut a0 a1).2.1), .bool ((Lib.cut a0 a1).2.2)], rfl, (TupR.cons (t := .str) (cs := [_]) (h := []) (hs := []) rfl ⟨rfl, rfl⟩ (TupR.cons (t := .str) (cs := [_]) (h := []) (hs := []) rfl ⟨rfl, rfl⟩ (TupR.cons (t := .bool) (cs := [_]) (h := []) (hs := []) rfl ⟨rfl, rfl⟩ .nil)))⟩, below_drawn n⟩
def strings_TrimSuffix (a0 : List UInt8) (a1 : List UInt8) : Option (List UInt8) := if a0.length ≤ 9223372036854775807 then some (Lib.trimSuffix a0 a1) else none
def strings_TrimSuffixEnt : Nat × Entry := (11, ⟨[.val .str, .val .str], [.str], fun z => strings_TrimSuffix z.1 z.2⟩)
theorem strings_TrimSuffix_ok : EntryOk Tryz.prog GG 11 strings_TrimSuffixEnt.2 := by
  refine ent_calls (ps := [.val .str, .val .str]) (rs := [.str]) (GoFn.mk Tryz.f11 (by kernel_rfl) (by kernel_rfl) (by kernel_rfl)) (by simp [Ty.top]) rfl fun z r w φ vals gs hs hz hG ha => ?_
  have hz : strings_TrimSuffix z.1 z.2 = some r := hz
  unfold strings_TrimSuffix at hz
  split at hz
  case isFalse => cases hz
  case isTrue hC =>
  injection hz with hz
  subst hz
  cases ha with
  | val h01 h02 h03 =>
  cases h03 with
  | val h11 h12 h13 =>
  cases h13
  obtain ⟨rfl, _⟩ := h02
  obtain ⟨rfl, _⟩ := h12
  obtain ⟨(a0 : List UInt8), (a1 : List UInt8)⟩ := z
  refine (Tryz.strings_TrimSuffix ⟨a0.toArray⟩ ⟨a1.toArray⟩ w (Nat.le_trans (Nat.le_of_eq (Eng.str_size a0)) hC)).mono ?_
  rintro e w' ⟨rfl, rfl⟩
  exact ⟨⟨[Eng.str (Lib.trimSuffix a0 a1)], rfl, (TupR.cons (t := .str) (cs := [_]) (h := []) (hs := []) rfl ⟨rfl, rfl⟩ .nil)⟩, Below.refl _ _⟩
def strings_HasPrefix (a0 : List UInt8) (a1 : List UInt8) : Option (Bool) := if True then some (Lib.hasPrefix a0 a1) else none
def strings_HasPrefixEnt : Nat × Entry := (24, ⟨[.val .str, .val .str], [.bool], fun z => strings_HasPrefix z.1 z.2⟩)
theorem strings_HasPrefix_ok : EntryOk Tryz.prog GG 24 strings_HasPrefixEnt.2 := by
  refine ent_calls (ps := [.val .str, .val .str]) (rs := [.bool]) (GoFn.mk Tryz.f24 (by kernel_rfl) (by kernel_rfl) (by kernel_rfl)) (by simp [Ty.top]) rfl fun z r w φ vals gs hs hz hG ha => ?_
  have hz : strings_HasPrefix z.1 z.2 = some r := hz
  unfold strings_HasPrefix at hz
  split at hz
  case isFalse => cases hz
  case isTrue hC =>
  injection hz with hz
  subst hz
  cases ha with
  | val h01 h02 h03 =>
  cases h03 with
  | val h11 h12 h13 =>
  cases h13
  obtain ⟨rfl, _⟩ := h02
  obtain ⟨rfl, _⟩ := h12
  obtain ⟨(a0 : List UInt8), (a1 : List UInt8)⟩ := z
  refine (Tryz.strings_HasPrefix ⟨a0.toArray⟩ ⟨a1.toArray⟩ w).mono ?_
  rintro e w' ⟨rfl, rfl⟩
  exact ⟨⟨[.bool (Lib.hasPrefix a0 a1)], rfl, (TupR.cons (t := .bool) (cs := [_]) (h := []) (hs := []) rfl ⟨rfl, rfl⟩ .nil)⟩, Below.refl _ _⟩
def strings_Trim (a0 : List UInt8) (a1 : List UInt8) : Option (List UInt8) := if a0.length ≤ 9223372036854775807 ∧ a1.length < 4294967281 ∧ a1.all (fun b => decide (b.toNat < 128)) = true then some (Lib.trimS a0 a1) else none
def strings_TrimEnt : Nat × Entry := (25, ⟨[.val .str, .val .str], [.str], fun z => strings_Trim z.1 z.2⟩)
theorem strings_Trim_ok : EntryOk Tryz.prog GG 25 strings_TrimEnt.2 := by
  refine ent_calls (ps := [.val .str, .val .str]) (rs := [.str]) (GoFn.mk Tryz.f25 (by kernel_rfl) (by kernel_rfl) (by kernel_rfl)) (by simp [Ty.top]) rfl fun z r w φ vals gs hs hz hG ha => ?_
  have hz : strings_Trim z.1 z.2 = some r := hz
  unfold strings_Trim at hz
  split at hz
  case isFalse => cases hz
  case isTrue hC =>
  injection hz with hz
  subst hz
  cases ha with
  | val h01 h02 h03 =>
  cases h03 with
  | val h11 h12 h13 =>
  cases h13
  obtain ⟨rfl, _⟩ := h02
  obtain ⟨rfl, _⟩ := h12
  obtain ⟨(a0 : List UInt8), (a1 : List UInt8)⟩ := z
  refine (Any.strings_Trim_laid Tryz.lays160 (by kernel_rfl) ⟨a0.toArray⟩ ⟨a1.toArray⟩ w (Nat.le_trans (Nat.le_of_eq (Eng.str_size a0)) hC.1) (Nat.lt_of_le_of_lt (Nat.le_of_eq (Eng.str_size a1)) hC.2.1) (ascii_of_all hC.2.2)).mono ?_
  rintro e w' ⟨rfl, hb⟩
  exact ⟨⟨[Eng.str (Lib.trimS a0 a1)], rfl, (TupR.cons (t := .str) (cs := [_]) (h := []) (hs := []) rfl ⟨rfl, rfl⟩ .nil)⟩, hb⟩
def strings_ReplaceAll (a0 : List UInt8) (a1 : List UInt8) (a2 : List UInt8) : Option (List UInt8) := if a0.length < 4294967281 ∧ 1 ≤ a1.length ∧ a0.length + Lib.countB ⟨a0.toArray⟩ ⟨a1.toArray⟩ * a2.length ≤ 140737488355328 then some (Lib.replaceAll a0 a1 a2) else none
def strings_ReplaceAllEnt : Nat × Entry := (43, ⟨[.val .str, .val .str, .val .str], [.str], fun z => strings_ReplaceAll z.1 z.2.1 z.2.2⟩)
theorem strings_ReplaceAll_ok : EntryOk Tryz.prog GG 43 strings_ReplaceAllEnt.2 := by
  refine ent_calls (ps := [.val .str, .val .str, .val .str]) (rs := [.str]) (GoFn.mk Tryz.f43 (by kernel_rfl) (by kernel_rfl) (by kernel_rfl)) (by simp [Ty.top]) rfl fun z r w φ vals gs hs hz hG ha => ?_
  have hz : strings_ReplaceAll z.1 z.2.1 z.2.2 = some r := hz
  unfold strings_ReplaceAll at hz
  split at hz
  case isFalse => cases hz
  case isTrue hC =>
  injection hz with hz
  subst hz
  cases ha with
  | val h01 h02 h03 =>
  cases h03 with
  | val h11 h12 h13 =>
  cases h13 with
  | val h21 h22 h23 =>
  cases h23
  obtain ⟨rfl, _⟩ := h02
  obtain ⟨rfl, _⟩ := h12
  obtain ⟨rfl, _⟩ := h22
  obtain ⟨(a0 : List UInt8), (a1 : List UInt8), (a2 : List UInt8)⟩ := z
  refine (Tryz.strings_ReplaceAll_shaped ⟨a0.toArray⟩ ⟨a1.toArray⟩ ⟨a2.toArray⟩ w hG.2 (Nat.lt_of_le_of_lt (Nat.le_of_eq (Eng.str_size a0)) hC.1) (Nat.le_trans hC.2.1 (Nat.le_of_eq (Eng.str_size a1).symm)) (by have e0 := Eng.str_size a0; have e2 := Eng.str_size a2; rw [e0, e2]; exact hC.2.2)).mono ?_
  rintro e w' ⟨rfl, hb⟩
  exact ⟨⟨[Eng.str (Lib.replaceAll a0 a1 a2)], rfl, (TupR.cons (t := .str) (cs := [_]) (h := []) (hs := []) rfl ⟨rfl, rfl⟩ .nil)⟩, hb⟩
def utf8_DecodeRuneInString (a0 : List UInt8) : Option (Int × Int) := if True then some ((((Lib.decodeGo ⟨a0.toArray⟩).1 : Int), ((Lib.decodeGo ⟨a0.toArray⟩).2 : Int))) else none
def utf8_DecodeRuneInStringEnt : Nat × Entry := (77, ⟨[.val .str], [.int .i32, .int .i64], fun z => utf8_DecodeRuneInString z⟩)
theorem utf8_DecodeRuneInString_ok : EntryOk Tryz.prog GG 77 utf8_DecodeRuneInStringEnt.2 := by
  refine ent_calls (ps := [.val .str]) (rs := [.int .i32, .int .i64]) (GoFn.mk Tryz.f77 (by kernel_rfl) (by kernel_rfl) (by kernel_rfl)) (by simp [Ty.top]) rfl fun (a0 : List UInt8) r w φ vals gs hs hz hG ha => ?_
  have hz : utf8_DecodeRuneInString a0 = some r := hz
  unfold utf8_DecodeRuneInString at hz
  split at hz
  case isFalse => cases hz
  case isTrue hC =>
  injection hz with hz
  subst hz
  cases ha with
  | val h01 h02 h03 =>
  cases h03
  obtain ⟨rfl, _⟩ := h02
  refine (Tryz.utf8_DecodeRuneInString ⟨a0.toArray⟩ w hG.1).mono ?_
  rintro e w' ⟨rfl, hb⟩
  exact ⟨⟨[.int .i32 (((((Lib.decodeGo ⟨a0.toArray⟩).1 : Int), ((Lib.decodeGo ⟨a0.toArray⟩).2 : Int))).1), .int .i64 (((((Lib.decodeGo ⟨a0.toArray⟩).1 : Int), ((Lib.decodeGo ⟨a0.toArray⟩).2 : Int))).2)], rfl, (TupR.cons (t := .int .i32) (cs := [_]) (h := []) (hs := []) rfl ⟨rfl, rfl⟩ (TupR.cons (t := .int .i64) (cs := [_]) (h := []) (hs := []) rfl ⟨rfl, rfl⟩ .nil))⟩, hb⟩
end Go.Fn
open Go Go.Lf
set_option maxRecDepth 10000
namespace Go.Fn
def Tys : List (Nat × Go.Lf.TyI) := [(2, ⟨(.int .i64), 0, 0⟩),
 (3, ⟨(.int .i64), 0, 0⟩),
 (4, ⟨.bool, 0, 0⟩),
 (5, ⟨(.int .u8), 0, 0⟩),
 (6, ⟨(.int .u8), 0, 0⟩),
 (7, ⟨(.st (.pr (.int .i64) (.pr (.int .i64) (.pr .bool (.pr (.int .u8) .unit))))), 0, 0⟩),
 (8, ⟨(.st (.pr (.int .i64) (.pr (.int .i64) (.pr .bool (.pr (.int .u8) .unit))))), 0, 0⟩),
 (9, ⟨.str, 0, 0⟩),
 (10, ⟨.str, 0, 0⟩),
 (11, ⟨.str, 0, 0⟩),
 (12, ⟨(.int .u64), 0, 0⟩),
 (13, ⟨(.st (.pr .str (.pr (.int .u64) .unit))), 0, 0⟩),
 (14, ⟨(.st (.pr .str (.pr (.int .u64) .unit))), 0, 0⟩),
 (21, ⟨(.int .i32), 0, 0⟩),
 (22, ⟨(.sl (.st (.pr (.int .i64) (.pr .str (.pr .str (.pr (.int .i64) (.pr (.int .i64) .unit))))))), 40, 56⟩),
 (24, ⟨(.eb 80 (.st (.pr (.int .i64) (.pr (.st (.pr (.int .i64) (.pr (.int .i64) (.pr (.int .i64) (.pr (.int .i64) (.pr .str (.pr (.sl (.st (.pr .str (.pr (.int .i64) .unit)))) .unit))))))) .unit)))), 0, 0⟩),
 (27, ⟨(.st (.pr (.int .i64) (.pr (.int .i64) (.pr (.int .i64) (.pr .str .unit))))), 0, 0⟩),
 (28, ⟨(.st (.pr (.int .i64) (.pr (.int .i64) (.pr (.int .i64) (.pr .str .unit))))), 0, 0⟩),
 (36, ⟨(.int .i64), 0, 0⟩),
 (38, ⟨(.sl (.st (.pr .str (.pr (.int .i64) (.pr (.int .i64) .unit))))), 66, 32⟩),
 (39, ⟨(.st (.pr (.int .i64) (.pr .str (.pr .str (.pr (.int .i64) (.pr (.int .i64) .unit)))))), 0, 0⟩),
 (40, ⟨(.st (.pr (.int .i64) (.pr .str (.pr .str (.pr (.int .i64) (.pr (.int .i64) .unit)))))), 0, 0⟩),
 (41, ⟨(.st (.pr (.int .i64) (.pr (.int .i64) .unit))), 3, 2⟩),
 (42, ⟨(.st (.pr (.sl (.st (.pr (.int .i64) (.pr .str (.pr .str (.pr (.int .i64) (.pr (.int .i64) .unit))))))) (.pr (.sl (.st (.pr .str (.pr (.int .i64) (.pr (.int .i64) .unit))))) (.pr (.int .i64) (.pr (.st (.pr (.int .i64) (.pr .str (.pr .str (.pr (.int .i64) (.pr (.int .i64) .unit)))))) (.pr (.st (.pr (.int .i64) (.pr (.int .i64) .unit))) (.pr (.int .i64) (.pr (.int .i64) .unit)))))))), 0, 0⟩),
 (43, ⟨(.st (.pr (.sl (.st (.pr (.int .i64) (.pr .str (.pr .str (.pr (.int .i64) (.pr (.int .i64) .unit))))))) (.pr (.sl (.st (.pr .str (.pr (.int .i64) (.pr (.int .i64) .unit))))) (.pr (.int .i64) (.pr (.st (.pr (.int .i64) (.pr .str (.pr .str (.pr (.int .i64) (.pr (.int .i64) .unit)))))) (.pr (.st (.pr (.int .i64) (.pr (.int .i64) .unit))) (.pr (.int .i64) (.pr (.int .i64) .unit)))))))), 0, 0⟩),
 (50, ⟨(.sl (.int .u8)), 5, 1⟩),
 (51, ⟨(.st (.pr (.sl (.st (.pr (.int .i64) (.pr .str (.pr .str (.pr (.int .i64) (.pr (.int .i64) .unit))))))) (.pr (.st (.pr (.int .i64) (.pr (.int .i64) (.pr (.int .i64) (.pr .str .unit))))) (.pr .bool (.pr (.sl (.st (.pr (.int .i64) (.pr .str (.pr .str (.pr (.int .i64) (.pr (.int .i64) .unit))))))) (.pr (.st (.pr (.int .i64) (.pr .str (.pr .str (.pr (.int .i64) (.pr (.int .i64) .unit)))))) (.pr (.sl (.int .u8)) (.pr (.st (.pr (.int .i64) (.pr .str (.pr .str (.pr (.int .i64) (.pr (.int .i64) .unit)))))) (.pr .bool .unit))))))))), 0, 0⟩),
 (52, ⟨(.st (.pr (.sl (.st (.pr (.int .i64) (.pr .str (.pr .str (.pr (.int .i64) (.pr (.int .i64) .unit))))))) (.pr (.st (.pr (.int .i64) (.pr (.int .i64) (.pr (.int .i64) (.pr .str .unit))))) (.pr .bool (.pr (.sl (.st (.pr (.int .i64) (.pr .str (.pr .str (.pr (.int .i64) (.pr (.int .i64) .unit))))))) (.pr (.st (.pr (.int .i64) (.pr .str (.pr .str (.pr (.int .i64) (.pr (.int .i64) .unit)))))) (.pr (.sl (.int .u8)) (.pr (.st (.pr (.int .i64) (.pr .str (.pr .str (.pr (.int .i64) (.pr (.int .i64) .unit)))))) (.pr .bool .unit))))))))), 0, 0⟩),
 (53, ⟨(.sl .str), 9, 16⟩),
 (56, ⟨(.sl (.st (.pr .str (.pr (.int .i64) .unit)))), 109, 24⟩),
 (57, ⟨(.st (.pr (.int .i64) (.pr (.int .i64) (.pr (.int .i64) (.pr (.int .i64) (.pr .str (.pr (.sl (.st (.pr .str (.pr (.int .i64) .unit)))) .unit))))))), 0, 0⟩),
 (58, ⟨(.st (.pr (.int .i64) (.pr (.int .i64) (.pr (.int .i64) (.pr (.int .i64) (.pr .str (.pr (.sl (.st (.pr .str (.pr (.int .i64) .unit)))) .unit))))))), 0, 0⟩),
 (60, ⟨(.sl (.st (.pr (.int .i64) (.pr (.int .i64) (.pr (.int .i64) (.pr (.int .i64) (.pr .str (.pr (.sl (.st (.pr .str (.pr (.int .i64) .unit)))) .unit)))))))), 58, 72⟩),
 (65, ⟨(.st (.pr .str (.pr (.int .i64) (.pr (.int .i64) .unit)))), 0, 0⟩),
 (66, ⟨(.st (.pr .str (.pr (.int .i64) (.pr (.int .i64) .unit)))), 0, 0⟩),
 (71, ⟨(.st (.pr (.int .i64) (.pr (.int .i64) (.pr (.sl (.st (.pr .str (.pr (.int .i64) .unit)))) .unit)))), 0, 0⟩),
 (72, ⟨(.st (.pr (.int .i64) (.pr (.int .i64) (.pr (.sl (.st (.pr .str (.pr (.int .i64) .unit)))) .unit)))), 0, 0⟩),
 (81, ⟨(.st (.pr (.int .i64) (.pr (.st (.pr (.int .i64) (.pr (.int .i64) (.pr (.int .i64) (.pr (.int .i64) (.pr .str (.pr (.sl (.st (.pr .str (.pr (.int .i64) .unit)))) .unit))))))) .unit))), 0, 0⟩),
 (82, ⟨(.st (.pr (.int .i64) (.pr (.st (.pr (.int .i64) (.pr (.int .i64) (.pr (.int .i64) (.pr (.int .i64) (.pr .str (.pr (.sl (.st (.pr .str (.pr (.int .i64) .unit)))) .unit))))))) .unit))), 0, 0⟩),
 (97, ⟨(.sl (.st (.pr (.int .i32) (.pr (.int .i64) (.pr (.int .i64) (.pr .bool .unit)))))), 100, 32⟩),
 (99, ⟨(.st (.pr (.int .i32) (.pr (.int .i64) (.pr (.int .i64) (.pr .bool .unit))))), 0, 0⟩),
 (100, ⟨(.st (.pr (.int .i32) (.pr (.int .i64) (.pr (.int .i64) (.pr .bool .unit))))), 0, 0⟩),
 (108, ⟨(.st (.pr .str (.pr (.int .i64) .unit))), 0, 0⟩),
 (109, ⟨(.st (.pr .str (.pr (.int .i64) .unit))), 0, 0⟩),
 (110, ⟨(.st (.pr (.st (.pr .str (.pr (.int .i64) .unit))) (.pr (.eb 80 (.st (.pr (.int .i64) (.pr (.st (.pr (.int .i64) (.pr (.int .i64) (.pr (.int .i64) (.pr (.int .i64) (.pr .str (.pr (.sl (.st (.pr .str (.pr (.int .i64) .unit)))) .unit))))))) .unit)))) .unit))), 0, 0⟩),
 (111, ⟨(.st (.pr (.st (.pr .str (.pr (.int .i64) .unit))) (.pr (.eb 80 (.st (.pr (.int .i64) (.pr (.st (.pr (.int .i64) (.pr (.int .i64) (.pr (.int .i64) (.pr (.int .i64) (.pr .str (.pr (.sl (.st (.pr .str (.pr (.int .i64) .unit)))) .unit))))))) .unit)))) .unit))), 0, 0⟩),
 (113, ⟨(.st (.pr (.int .i64) (.pr (.eb 80 (.st (.pr (.int .i64) (.pr (.st (.pr (.int .i64) (.pr (.int .i64) (.pr (.int .i64) (.pr (.int .i64) (.pr .str (.pr (.sl (.st (.pr .str (.pr (.int .i64) .unit)))) .unit))))))) .unit)))) .unit))), 0, 0⟩),
 (114, ⟨(.st (.pr (.int .i64) (.pr (.eb 80 (.st (.pr (.int .i64) (.pr (.st (.pr (.int .i64) (.pr (.int .i64) (.pr (.int .i64) (.pr (.int .i64) (.pr .str (.pr (.sl (.st (.pr .str (.pr (.int .i64) .unit)))) .unit))))))) .unit)))) .unit))), 0, 0⟩),
 (119, ⟨(.sl (.eb 80 (.st (.pr (.int .i64) (.pr (.st (.pr (.int .i64) (.pr (.int .i64) (.pr (.int .i64) (.pr (.int .i64) (.pr .str (.pr (.sl (.st (.pr .str (.pr (.int .i64) .unit)))) .unit))))))) .unit))))), 24, 16⟩),
 (123, ⟨(.int .u64), 0, 0⟩),
 (132, ⟨(.int .u32), 0, 0⟩),
 (138, ⟨(.st (.pr (.int .u8) (.pr (.int .u8) .unit))), 0, 0⟩),
 (140, ⟨(.st (.pr (.st (.pr (.int .u8) (.pr (.int .u8) .unit))) (.pr (.st (.pr (.int .u8) (.pr (.int .u8) .unit))) (.pr (.st (.pr (.int .u8) (.pr (.int .u8) .unit))) (.pr (.st (.pr (.int .u8) (.pr (.int .u8) .unit))) (.pr (.st (.pr (.int .u8) (.pr (.int .u8) .unit))) (.pr (.st (.pr (.int .u8) (.pr (.int .u8) .unit))) (.pr (.st (.pr (.int .u8) (.pr (.int .u8) .unit))) (.pr (.st (.pr (.int .u8) (.pr (.int .u8) .unit))) (.pr (.st (.pr (.int .u8) (.pr (.int .u8) .unit))) (.pr (.st (.pr (.int .u8) (.pr (.int .u8) .unit))) (.pr (.st (.pr (.int .u8) (.pr (.int .u8) .unit))) (.pr (.st (.pr (.int .u8) (.pr (.int .u8) .unit))) (.pr (.st (.pr (.int .u8) (.pr (.int .u8) .unit))) (.pr (.st (.pr (.int .u8) (.pr (.int .u8) .unit))) (.pr (.st (.pr (.int .u8) (.pr (.int .u8) .unit))) (.pr (.st (.pr (.int .u8) (.pr (.int .u8) .unit))) .unit))))))))))))))))), 139, 16⟩),
 (148, ⟨(.int .u8), 0, 0⟩),
 (149, ⟨(.int .u8), 0, 0⟩),
 (151, ⟨(.int .i32), 0, 0⟩),
 (80, ⟨(.ptr (.st (.pr (.int .i64) (.pr (.st (.pr (.int .i64) (.pr (.int .i64) (.pr (.int .i64) (.pr (.int .i64) (.pr .str (.pr (.sl (.st (.pr .str (.pr (.int .i64) .unit)))) .unit))))))) .unit)))), 0, 0⟩),
 (107, ⟨(.ptr .unit), 0, 0⟩),
 (112, ⟨(.ptr .unit), 0, 0⟩),
 (116, ⟨(.eb 80 (.st (.pr (.int .i64) (.pr (.st (.pr (.int .i64) (.pr (.int .i64) (.pr (.int .i64) (.pr (.int .i64) (.pr .str (.pr (.sl (.st (.pr .str (.pr (.int .i64) .unit)))) .unit))))))) .unit)))), 0, 0⟩),
 (118, ⟨(.eb 80 (.st (.pr (.int .i64) (.pr (.st (.pr (.int .i64) (.pr (.int .i64) (.pr (.int .i64) (.pr (.int .i64) (.pr .str (.pr (.sl (.st (.pr .str (.pr (.int .i64) .unit)))) .unit))))))) .unit)))), 0, 0⟩)]
theorem Tys_ok : ∀ id i, Go.Lf.look Tys id = some i → Go.Lf.TyOk Go.Proofs.Tryz.prog id i := Go.Lf.tysB_ok (by kernel_rfl)
noncomputable def fault_NewCtx : Go.Lf.Ctx := ⟨22, Tys, [], [], [21], []⟩
noncomputable def fault_NewCode : Go.Code := (Go.Proofs.Tryz.f20.body).getD .skip
def fault_NewAnn : Go.Lf.Ann := .no
noncomputable def fault_New (a0 : Int) (a1 : Int) (a2 : Int) (a3 : Int) (a4 : List (UInt8)) : Option (Option ((Int) × (((Int) × ((Int) × ((Int) × ((Int) × ((List (UInt8)) × ((List ((List (UInt8)) × ((Int) × (Unit)))) × (Unit))))))) × (Unit)))) :=
 bif (decide ((a0 : Int) = (0 : Int))) then some (none : Option ((Int) × (((Int) × ((Int) × ((Int) × ((Int) × ((List (UInt8)) × ((List ((List (UInt8)) × ((Int) × (Unit)))) × (Unit))))))) × (Unit))))
 else some (some ((1 : Int), ((a0, (a1, (a2, (a3, (a4, (([] : List ((List (UInt8)) × ((Int) × (Unit)))), ())))))), ())))
theorem fault_New_eq (a0 : Int) (a1 : Int) (a2 : Int) (a3 : Int) (a4 : List (UInt8)) : Go.Lf.fnE fault_NewCtx fault_NewCode fault_NewAnn [.val (.int .i64), .val (.int .i64), .val (.int .i64), .val (.int .i64), .val .str] [(.eb 80 (.st (.pr (.int .i64) (.pr (.st (.pr (.int .i64) (.pr (.int .i64) (.pr (.int .i64) (.pr (.int .i64) (.pr .str (.pr (.sl (.st (.pr .str (.pr (.int .i64) .unit)))) .unit))))))) .unit))))] [.tmp 10] (a0, a1, a2, a3, a4) = fault_New a0 a1 a2 a3 a4 := by kernel_rfl
noncomputable def fault_NewEnt : Nat × Go.Lf.Entry := (20, ⟨[.val (.int .i64), .val (.int .i64), .val (.int .i64), .val (.int .i64), .val .str], [(.eb 80 (.st (.pr (.int .i64) (.pr (.st (.pr (.int .i64) (.pr (.int .i64) (.pr (.int .i64) (.pr (.int .i64) (.pr .str (.pr (.sl (.st (.pr .str (.pr (.int .i64) .unit)))) .unit))))))) .unit))))], fun z => fault_New z.1 z.2.1 z.2.2.1 z.2.2.2.1 z.2.2.2.2⟩)
theorem fault_New_ok : Go.Lf.EntryOk Go.Proofs.Tryz.prog GG 20 fault_NewEnt.2 :=
  Go.Lf.fn_ok (c := fault_NewCtx) (code := fault_NewCode) (an := fault_NewAnn) (slots := [.tmp 10]) (fn := Go.Proofs.Tryz.f20) (by kernel_rfl) ⟨Tys_ok, Go.Lf.FnsOk.look .nil⟩ (by kernel_rfl) (by kernel_rfl) (by kernel_rfl) (by kernel_rfl) (by kernel_rfl) (Nat.le_of_ble_eq_true rfl) (by simp [Go.Lf.Ty.top]) (by simp [Go.Lf.Ty.top]) fun z r h => (fault_New_eq z.1 z.2.1 z.2.2.1 z.2.2.2.1 z.2.2.2.2).trans h
noncomputable def mark_wrongCtx : Go.Lf.Ctx := ⟨14, Tys, [fault_NewEnt], [], [], []⟩
noncomputable def mark_wrongCode : Go.Code := (Go.Proofs.Tryz.f9.body).getD .skip
def mark_wrongAnn : Go.Lf.Ann := .no
noncomputable def mark_wrong (a0 : Int) (a1 : Int) (a2 : Int) (a3 : List (UInt8)) : Option (Option ((Int) × (((Int) × ((Int) × ((Int) × ((Int) × ((List (UInt8)) × ((List ((List (UInt8)) × ((Int) × (Unit)))) × (Unit))))))) × (Unit)))) :=
 ((Go.Fn.fault_New a0 (0 : Int) a1 a2 a3)).bind fun r1 =>
 some r1
theorem mark_wrong_eq (a0 : Int) (a1 : Int) (a2 : Int) (a3 : List (UInt8)) : Go.Lf.fnE mark_wrongCtx mark_wrongCode mark_wrongAnn [.val (.int .i64), .val (.int .i64), .val (.int .i64), .val .str] [(.eb 80 (.st (.pr (.int .i64) (.pr (.st (.pr (.int .i64) (.pr (.int .i64) (.pr (.int .i64) (.pr (.int .i64) (.pr .str (.pr (.sl (.st (.pr .str (.pr (.int .i64) .unit)))) .unit))))))) .unit))))] [.tmp 8] (a0, a1, a2, a3) = mark_wrong a0 a1 a2 a3 := by kernel_rfl
noncomputable def mark_wrongEnt : Nat × Go.Lf.Entry := (9, ⟨[.val (.int .i64), .val (.int .i64), .val (.int .i64), .val .str], [(.eb 80 (.st (.pr (.int .i64) (.pr (.st (.pr (.int .i64) (.pr (.int .i64) (.pr (.int .i64) (.pr (.int .i64) (.pr .str (.pr (.sl (.st (.pr .str (.pr (.int .i64) .unit)))) .unit))))))) .unit))))], fun z => mark_wrong z.1 z.2.1 z.2.2.1 z.2.2.2⟩)
theorem mark_wrong_ok : Go.Lf.EntryOk Go.Proofs.Tryz.prog GG 9 mark_wrongEnt.2 :=
  Go.Lf.fn_ok (c := mark_wrongCtx) (code := mark_wrongCode) (an := mark_wrongAnn) (slots := [.tmp 8]) (fn := Go.Proofs.Tryz.f9) (by kernel_rfl) ⟨Tys_ok, Go.Lf.FnsOk.look (.con fault_New_ok .nil)⟩ (by kernel_rfl) (by kernel_rfl) (by kernel_rfl) (by kernel_rfl) (by kernel_rfl) (Nat.le_of_ble_eq_true rfl) (by simp [Go.Lf.Ty.top]) (by simp [Go.Lf.Ty.top]) fun z r h => (mark_wrong_eq z.1 z.2.1 z.2.2.1 z.2.2.2).trans h
noncomputable def mark_lexer__checkCtx : Go.Lf.Ctx := ⟨30, Tys, [mark_wrongEnt, text_PlainEnt, strings_ReplaceAllEnt], [], [], []⟩
noncomputable def mark_lexer__checkCode : Go.Code := (Go.Proofs.Tryz.f23.body).getD .skip
def mark_lexer__checkAnn : Go.Lf.Ann := .no
noncomputable def mark_lexer__check (a0 : (List ((Int) × ((List (UInt8)) × ((List (UInt8)) × ((Int) × ((Int) × (Unit))))))) × ((List ((List (UInt8)) × ((Int) × ((Int) × (Unit))))) × ((Int) × (((Int) × ((List (UInt8)) × ((List (UInt8)) × ((Int) × ((Int) × (Unit)))))) × (((Int) × ((Int) × (Unit))) × ((Int) × ((Int) × (Unit)))))))) (a1 : List (UInt8)) : Option ((Option ((Int) × (((Int) × ((Int) × ((Int) × ((Int) × ((List (UInt8)) × ((List ((List (UInt8)) × ((Int) × (Unit)))) × (Unit))))))) × (Unit)))) × ((List ((Int) × ((List (UInt8)) × ((List (UInt8)) × ((Int) × ((Int) × (Unit))))))) × ((List ((List (UInt8)) × ((Int) × ((Int) × (Unit))))) × ((Int) × (((Int) × ((List (UInt8)) × ((List (UInt8)) × ((Int) × ((Int) × (Unit)))))) × (((Int) × ((Int) × (Unit))) × ((Int) × ((Int) × (Unit))))))))) :=
 bif (decide ((4096 : Int) < (((List.length a1) : Nat) : Int))) then ((Go.Fn.mark_wrong (2 : Int) a0.2.2.2.2.2.2.1 (1 : Int) ([] : List (UInt8)))).bind fun r1 =>
 some (r1, a0)
 else ((Go.Fn.strings_ReplaceAll a1 ((9 : UInt8) :: ([] : List (UInt8))) ((32 : UInt8) :: ([] : List (UInt8))))).bind fun r2 =>
 ((Go.Fn.text_Plain r2)).bind fun r3 =>
 bif (!r3.2) then ((Go.Fn.mark_wrong (40 : Int) a0.2.2.2.2.2.2.1 (Go.IntKind.wrap .i64 (r3.1 + (1 : Int))) ([] : List (UInt8)))).bind fun r4 =>
 some (r4, a0)
 else some ((none : Option ((Int) × (((Int) × ((Int) × ((Int) × ((Int) × ((List (UInt8)) × ((List ((List (UInt8)) × ((Int) × (Unit)))) × (Unit))))))) × (Unit)))), a0)
theorem mark_lexer__check_eq (a0 : (List ((Int) × ((List (UInt8)) × ((List (UInt8)) × ((Int) × ((Int) × (Unit))))))) × ((List ((List (UInt8)) × ((Int) × ((Int) × (Unit))))) × ((Int) × (((Int) × ((List (UInt8)) × ((List (UInt8)) × ((Int) × ((Int) × (Unit)))))) × (((Int) × ((Int) × (Unit))) × ((Int) × ((Int) × (Unit)))))))) (a1 : List (UInt8)) : Go.Lf.fnE mark_lexer__checkCtx mark_lexer__checkCode mark_lexer__checkAnn [.obj 43 (.st (.pr (.rw 40 (.st (.pr (.int .i64) (.pr .str (.pr .str (.pr (.int .i64) (.pr (.int .i64) .unit))))))) (.pr (.mr 66 (.st (.pr .str (.pr (.int .i64) (.pr (.int .i64) .unit))))) (.pr (.int .i64) (.pr (.st (.pr (.int .i64) (.pr .str (.pr .str (.pr (.int .i64) (.pr (.int .i64) .unit)))))) (.pr (.st (.pr (.int .i64) (.pr (.int .i64) .unit))) (.pr (.int .i64) (.pr (.int .i64) .unit)))))))) (.st (.pr (.rw 40 (.st (.pr (.int .i64) (.pr .str (.pr .str (.pr (.int .i64) (.pr (.int .i64) .unit))))))) (.pr (.mr 66 (.st (.pr .str (.pr (.int .i64) (.pr (.int .i64) .unit))))) (.pr (.int .i64) (.pr (.st (.pr (.int .i64) (.pr .str (.pr .str (.pr (.int .i64) (.pr (.int .i64) .unit)))))) (.pr (.st (.pr (.int .i64) (.pr (.int .i64) .unit))) (.pr (.int .i64) (.pr (.int .i64) .unit)))))))) [], .val .str] [(.eb 80 (.st (.pr (.int .i64) (.pr (.st (.pr (.int .i64) (.pr (.int .i64) (.pr (.int .i64) (.pr (.int .i64) (.pr .str (.pr (.sl (.st (.pr .str (.pr (.int .i64) .unit)))) .unit))))))) .unit))))] [.tmp 4] (a0, a1) = mark_lexer__check a0 a1 := by kernel_rfl
noncomputable def mark_lexer__checkEnt : Nat × Go.Lf.Entry := (23, ⟨[.obj 43 (.st (.pr (.rw 40 (.st (.pr (.int .i64) (.pr .str (.pr .str (.pr (.int .i64) (.pr (.int .i64) .unit))))))) (.pr (.mr 66 (.st (.pr .str (.pr (.int .i64) (.pr (.int .i64) .unit))))) (.pr (.int .i64) (.pr (.st (.pr (.int .i64) (.pr .str (.pr .str (.pr (.int .i64) (.pr (.int .i64) .unit)))))) (.pr (.st (.pr (.int .i64) (.pr (.int .i64) .unit))) (.pr (.int .i64) (.pr (.int .i64) .unit)))))))) (.st (.pr (.rw 40 (.st (.pr (.int .i64) (.pr .str (.pr .str (.pr (.int .i64) (.pr (.int .i64) .unit))))))) (.pr (.mr 66 (.st (.pr .str (.pr (.int .i64) (.pr (.int .i64) .unit))))) (.pr (.int .i64) (.pr (.st (.pr (.int .i64) (.pr .str (.pr .str (.pr (.int .i64) (.pr (.int .i64) .unit)))))) (.pr (.st (.pr (.int .i64) (.pr (.int .i64) .unit))) (.pr (.int .i64) (.pr (.int .i64) .unit)))))))) [], .val .str], [(.eb 80 (.st (.pr (.int .i64) (.pr (.st (.pr (.int .i64) (.pr (.int .i64) (.pr (.int .i64) (.pr (.int .i64) (.pr .str (.pr (.sl (.st (.pr .str (.pr (.int .i64) .unit)))) .unit))))))) .unit))))], fun z => mark_lexer__check z.1 z.2⟩)
theorem mark_lexer__check_ok : Go.Lf.EntryOk Go.Proofs.Tryz.prog GG 23 mark_lexer__checkEnt.2 :=
  Go.Lf.fn_ok (c := mark_lexer__checkCtx) (code := mark_lexer__checkCode) (an := mark_lexer__checkAnn) (slots := [.tmp 4]) (fn := Go.Proofs.Tryz.f23) (by kernel_rfl) ⟨Tys_ok, Go.Lf.FnsOk.look (.con mark_wrong_ok (.con text_Plain_ok (.con strings_ReplaceAll_ok .nil)))⟩ (by kernel_rfl) (by kernel_rfl) (by kernel_rfl) (by kernel_rfl) (by kernel_rfl) (Nat.le_of_ble_eq_true rfl) (by simp [Go.Lf.Ty.top]) (by simp [Go.Lf.Ty.top]) fun z r h => (mark_lexer__check_eq z.1 z.2).trans h
noncomputable def mark_lexer__flushCtx : Go.Lf.Ctx := ⟨25, Tys, [], [12], [], [(12, (.rw 40 (.st (.pr (.int .i64) (.pr .str (.pr .str (.pr (.int .i64) (.pr (.int .i64) .unit))))))))]⟩
noncomputable def mark_lexer__flushCode : Go.Code := (Go.Proofs.Tryz.f28.body).getD .skip
def mark_lexer__flushAnn : Go.Lf.Ann := (.seq (.join (.one .nrm ⟨[], [(0, 0, [], 0)], [], [(0, 43, (.st (.pr (.rw 40 (.st (.pr (.int .i64) (.pr .str (.pr .str (.pr (.int .i64) (.pr (.int .i64) .unit))))))) (.pr (.mr 66 (.st (.pr .str (.pr (.int .i64) (.pr (.int .i64) .unit))))) (.pr (.int .i64) (.pr (.st (.pr (.int .i64) (.pr .str (.pr .str (.pr (.int .i64) (.pr (.int .i64) .unit)))))) (.pr (.st (.pr (.int .i64) (.pr (.int .i64) .unit))) (.pr (.int .i64) (.pr (.int .i64) .unit)))))))))]⟩) (.seq .no (.cnd (.soup 10) .no))) .no)
noncomputable def mark_lexer__flush (a0 : (List ((Int) × ((List (UInt8)) × ((List (UInt8)) × ((Int) × ((Int) × (Unit))))))) × ((List ((List (UInt8)) × ((Int) × ((Int) × (Unit))))) × ((Int) × (((Int) × ((List (UInt8)) × ((List (UInt8)) × ((Int) × ((Int) × (Unit)))))) × (((Int) × ((Int) × (Unit))) × ((Int) × ((Int) × (Unit)))))))) : Option ((List ((Int) × ((List (UInt8)) × ((List (UInt8)) × ((Int) × ((Int) × (Unit))))))) × ((List ((List (UInt8)) × ((Int) × ((Int) × (Unit))))) × ((Int) × (((Int) × ((List (UInt8)) × ((List (UInt8)) × ((Int) × ((Int) × (Unit)))))) × (((Int) × ((Int) × (Unit))) × ((Int) × ((Int) × (Unit)))))))) :=
 (bif (decide ((a0.2.2.2.1.2.2.1 : List (UInt8)) ≠ ([] : List (UInt8)))) then ((Go.Lf.app (56 : Nat) a0.1 (a0.2.2.2.1 :: ([] : List ((Int) × ((List (UInt8)) × ((List (UInt8)) × ((Int) × ((Int) × (Unit)))))))))).bind fun r1 =>
   some (r1, a0.2)
   else some a0).bind fun r2 =>
 some (r2.1, (r2.2.1, (r2.2.2.1, (((0 : Int), (([] : List (UInt8)), (([] : List (UInt8)), ((0 : Int), ((0 : Int), ()))))), r2.2.2.2.2))))
theorem mark_lexer__flush_eq (a0 : (List ((Int) × ((List (UInt8)) × ((List (UInt8)) × ((Int) × ((Int) × (Unit))))))) × ((List ((List (UInt8)) × ((Int) × ((Int) × (Unit))))) × ((Int) × (((Int) × ((List (UInt8)) × ((List (UInt8)) × ((Int) × ((Int) × (Unit)))))) × (((Int) × ((Int) × (Unit))) × ((Int) × ((Int) × (Unit)))))))) : Go.Lf.fnE mark_lexer__flushCtx mark_lexer__flushCode mark_lexer__flushAnn [.obj 43 (.st (.pr (.rw 40 (.st (.pr (.int .i64) (.pr .str (.pr .str (.pr (.int .i64) (.pr (.int .i64) .unit))))))) (.pr (.mr 66 (.st (.pr .str (.pr (.int .i64) (.pr (.int .i64) .unit))))) (.pr (.int .i64) (.pr (.st (.pr (.int .i64) (.pr .str (.pr .str (.pr (.int .i64) (.pr (.int .i64) .unit)))))) (.pr (.st (.pr (.int .i64) (.pr (.int .i64) .unit))) (.pr (.int .i64) (.pr (.int .i64) .unit)))))))) (.st (.pr (.rw 40 (.st (.pr (.int .i64) (.pr .str (.pr .str (.pr (.int .i64) (.pr (.int .i64) .unit))))))) (.pr (.mr 66 (.st (.pr .str (.pr (.int .i64) (.pr (.int .i64) .unit))))) (.pr (.int .i64) (.pr (.st (.pr (.int .i64) (.pr .str (.pr .str (.pr (.int .i64) (.pr (.int .i64) .unit)))))) (.pr (.st (.pr (.int .i64) (.pr (.int .i64) .unit))) (.pr (.int .i64) (.pr (.int .i64) .unit)))))))) []] [] [] (a0) = mark_lexer__flush a0 := by kernel_rfl
noncomputable def mark_lexer__flushEnt : Nat × Go.Lf.Entry := (28, ⟨[.obj 43 (.st (.pr (.rw 40 (.st (.pr (.int .i64) (.pr .str (.pr .str (.pr (.int .i64) (.pr (.int .i64) .unit))))))) (.pr (.mr 66 (.st (.pr .str (.pr (.int .i64) (.pr (.int .i64) .unit))))) (.pr (.int .i64) (.pr (.st (.pr (.int .i64) (.pr .str (.pr .str (.pr (.int .i64) (.pr (.int .i64) .unit)))))) (.pr (.st (.pr (.int .i64) (.pr (.int .i64) .unit))) (.pr (.int .i64) (.pr (.int .i64) .unit)))))))) (.st (.pr (.rw 40 (.st (.pr (.int .i64) (.pr .str (.pr .str (.pr (.int .i64) (.pr (.int .i64) .unit))))))) (.pr (.mr 66 (.st (.pr .str (.pr (.int .i64) (.pr (.int .i64) .unit))))) (.pr (.int .i64) (.pr (.st (.pr (.int .i64) (.pr .str (.pr .str (.pr (.int .i64) (.pr (.int .i64) .unit)))))) (.pr (.st (.pr (.int .i64) (.pr (.int .i64) .unit))) (.pr (.int .i64) (.pr (.int .i64) .unit)))))))) []], [], fun z => mark_lexer__flush z⟩)
theorem mark_lexer__flush_ok : Go.Lf.EntryOk Go.Proofs.Tryz.prog GG 28 mark_lexer__flushEnt.2 :=
  Go.Lf.fn_ok (c := mark_lexer__flushCtx) (code := mark_lexer__flushCode) (an := mark_lexer__flushAnn) (slots := []) (fn := Go.Proofs.Tryz.f28) (by kernel_rfl) ⟨Tys_ok, Go.Lf.FnsOk.look .nil⟩ (by kernel_rfl) (by kernel_rfl) (by kernel_rfl) (by kernel_rfl) (by kernel_rfl) (Nat.le_of_ble_eq_true rfl) (by simp [Go.Lf.Ty.top]) (by simp [Go.Lf.Ty.top]) fun z r h => (mark_lexer__flush_eq z).trans h
noncomputable def mark_lexer__endCtx : Go.Lf.Ctx := ⟨41, Tys, [mark_wrongEnt, mark_lexer__flushEnt], [], [], []⟩
noncomputable def mark_lexer__endCode : Go.Code := (Go.Proofs.Tryz.f13.body).getD .skip
def mark_lexer__endAnn : Go.Lf.Ann := .no
noncomputable def mark_lexer__end (a0 : (List ((Int) × ((List (UInt8)) × ((List (UInt8)) × ((Int) × ((Int) × (Unit))))))) × ((List ((List (UInt8)) × ((Int) × ((Int) × (Unit))))) × ((Int) × (((Int) × ((List (UInt8)) × ((List (UInt8)) × ((Int) × ((Int) × (Unit)))))) × (((Int) × ((Int) × (Unit))) × ((Int) × ((Int) × (Unit)))))))) : Option ((Option ((Int) × (((Int) × ((Int) × ((Int) × ((Int) × ((List (UInt8)) × ((List ((List (UInt8)) × ((Int) × (Unit)))) × (Unit))))))) × (Unit)))) × ((List ((Int) × ((List (UInt8)) × ((List (UInt8)) × ((Int) × ((Int) × (Unit))))))) × ((List ((List (UInt8)) × ((Int) × ((Int) × (Unit))))) × ((Int) × (((Int) × ((List (UInt8)) × ((List (UInt8)) × ((Int) × ((Int) × (Unit)))))) × (((Int) × ((Int) × (Unit))) × ((Int) × ((Int) × (Unit))))))))) :=
 bif (decide ((a0.2.2.1 : Int) = (0 : Int))) then some ((none : Option ((Int) × (((Int) × ((Int) × ((Int) × ((Int) × ((List (UInt8)) × ((List ((List (UInt8)) × ((Int) × (Unit)))) × (Unit))))))) × (Unit)))), a0)
 else bif (decide ((0 : Int) < (((List.length a0.2.1) : Nat) : Int))) then ((Go.Lf.chk (List.length a0.2.1) (Go.IntKind.wrap .i64 ((((List.length a0.2.1) : Nat) : Int) - (1 : Int))))).bind fun r1 =>
 ((Go.Lf.nth a0.2.1 r1)).bind fun r2 =>
 ((Go.Fn.mark_wrong (45 : Int) r2.2.1 r2.2.2.1 r2.1)).bind fun r3 =>
 some (r3, a0)
 else ((Go.Fn.mark_lexer__flush a0)).bind fun r4 =>
 some ((none : Option ((Int) × (((Int) × ((Int) × ((Int) × ((Int) × ((List (UInt8)) × ((List ((List (UInt8)) × ((Int) × (Unit)))) × (Unit))))))) × (Unit)))), (r4.1, (r4.2.1, ((0 : Int), (r4.2.2.2.1, (((0 : Int), ((0 : Int), ())), r4.2.2.2.2.2))))))
theorem mark_lexer__end_eq (a0 : (List ((Int) × ((List (UInt8)) × ((List (UInt8)) × ((Int) × ((Int) × (Unit))))))) × ((List ((List (UInt8)) × ((Int) × ((Int) × (Unit))))) × ((Int) × (((Int) × ((List (UInt8)) × ((List (UInt8)) × ((Int) × ((Int) × (Unit)))))) × (((Int) × ((Int) × (Unit))) × ((Int) × ((Int) × (Unit)))))))) : Go.Lf.fnE mark_lexer__endCtx mark_lexer__endCode mark_lexer__endAnn [.obj 43 (.st (.pr (.rw 40 (.st (.pr (.int .i64) (.pr .str (.pr .str (.pr (.int .i64) (.pr (.int .i64) .unit))))))) (.pr (.mr 66 (.st (.pr .str (.pr (.int .i64) (.pr (.int .i64) .unit))))) (.pr (.int .i64) (.pr (.st (.pr (.int .i64) (.pr .str (.pr .str (.pr (.int .i64) (.pr (.int .i64) .unit)))))) (.pr (.st (.pr (.int .i64) (.pr (.int .i64) .unit))) (.pr (.int .i64) (.pr (.int .i64) .unit)))))))) (.st (.pr (.rw 40 (.st (.pr (.int .i64) (.pr .str (.pr .str (.pr (.int .i64) (.pr (.int .i64) .unit))))))) (.pr (.mr 66 (.st (.pr .str (.pr (.int .i64) (.pr (.int .i64) .unit))))) (.pr (.int .i64) (.pr (.st (.pr (.int .i64) (.pr .str (.pr .str (.pr (.int .i64) (.pr (.int .i64) .unit)))))) (.pr (.st (.pr (.int .i64) (.pr (.int .i64) .unit))) (.pr (.int .i64) (.pr (.int .i64) .unit)))))))) []] [(.eb 80 (.st (.pr (.int .i64) (.pr (.st (.pr (.int .i64) (.pr (.int .i64) (.pr (.int .i64) (.pr (.int .i64) (.pr .str (.pr (.sl (.st (.pr .str (.pr (.int .i64) .unit)))) .unit))))))) .unit))))] [.tmp 2] (a0) = mark_lexer__end a0 := by kernel_rfl
noncomputable def mark_lexer__endEnt : Nat × Go.Lf.Entry := (13, ⟨[.obj 43 (.st (.pr (.rw 40 (.st (.pr (.int .i64) (.pr .str (.pr .str (.pr (.int .i64) (.pr (.int .i64) .unit))))))) (.pr (.mr 66 (.st (.pr .str (.pr (.int .i64) (.pr (.int .i64) .unit))))) (.pr (.int .i64) (.pr (.st (.pr (.int .i64) (.pr .str (.pr .str (.pr (.int .i64) (.pr (.int .i64) .unit)))))) (.pr (.st (.pr (.int .i64) (.pr (.int .i64) .unit))) (.pr (.int .i64) (.pr (.int .i64) .unit)))))))) (.st (.pr (.rw 40 (.st (.pr (.int .i64) (.pr .str (.pr .str (.pr (.int .i64) (.pr (.int .i64) .unit))))))) (.pr (.mr 66 (.st (.pr .str (.pr (.int .i64) (.pr (.int .i64) .unit))))) (.pr (.int .i64) (.pr (.st (.pr (.int .i64) (.pr .str (.pr .str (.pr (.int .i64) (.pr (.int .i64) .unit)))))) (.pr (.st (.pr (.int .i64) (.pr (.int .i64) .unit))) (.pr (.int .i64) (.pr (.int .i64) .unit)))))))) []], [(.eb 80 (.st (.pr (.int .i64) (.pr (.st (.pr (.int .i64) (.pr (.int .i64) (.pr (.int .i64) (.pr (.int .i64) (.pr .str (.pr (.sl (.st (.pr .str (.pr (.int .i64) .unit)))) .unit))))))) .unit))))], fun z => mark_lexer__end z⟩)
theorem mark_lexer__end_ok : Go.Lf.EntryOk Go.Proofs.Tryz.prog GG 13 mark_lexer__endEnt.2 :=
  Go.Lf.fn_ok (c := mark_lexer__endCtx) (code := mark_lexer__endCode) (an := mark_lexer__endAnn) (slots := [.tmp 2]) (fn := Go.Proofs.Tryz.f13) (by kernel_rfl) ⟨Tys_ok, Go.Lf.FnsOk.look (.con mark_wrong_ok (.con mark_lexer__flush_ok .nil))⟩ (by kernel_rfl) (by kernel_rfl) (by kernel_rfl) (by kernel_rfl) (by kernel_rfl) (Nat.le_of_ble_eq_true rfl) (by simp [Go.Lf.Ty.top]) (by simp [Go.Lf.Ty.top]) fun z r h => (mark_lexer__end_eq z).trans h
noncomputable def mark_nameCtx : Go.Lf.Ctx := ⟨23, Tys, [], [], [], []⟩
noncomputable def mark_nameCode : Go.Code := (Go.Proofs.Tryz.f52.body).getD .skip
def mark_nameAnn : Go.Lf.Ann := (.seq .no (.seq .no (.seq (.loop ⟨[0], [], [(3, (.int .i64))], []⟩ (.one (.ext 0) ⟨[], [], [(3, (.int .i64))], []⟩) (.seq (.seq (.join (.one .nrm ⟨[0, 3], [], [(19, .bool)], []⟩) .no) .no) .no)) .no)))
noncomputable def mark_name (a0 : List (UInt8)) : Option (Int) :=
 (Go.Lf.loopC (σ := Int) (κ := Int) (fun z1 =>
     (bif (decide (z1 < (((List.length a0) : Nat) : Int))) then ((Go.Lf.idx a0 z1)).bind fun r2 =>
       bif (decide ((97 : Int) ≤ (((UInt8.toNat r2) : Nat) : Int))) then ((Go.Lf.idx a0 z1)).bind fun r3 =>
       some (decide ((((UInt8.toNat r3) : Nat) : Int) ≤ (122 : Int)))
       else some false
       else some false).bind fun r4 =>
     bif r4 then some (.inl (Go.IntKind.wrap .i64 (z1 + (1 : Int))))
     else some (.inr z1)) (0 : Int) : Option (Int)).bind fun r5 =>
 some r5
theorem mark_name_eq (a0 : List (UInt8)) : Go.Lf.fnE mark_nameCtx mark_nameCode mark_nameAnn [.val .str] [(.int .i64)] [.tmp 2] (a0) = mark_name a0 := by kernel_rfl
noncomputable def mark_nameEnt : Nat × Go.Lf.Entry := (52, ⟨[.val .str], [(.int .i64)], fun z => mark_name z⟩)
theorem mark_name_ok : Go.Lf.EntryOk Go.Proofs.Tryz.prog GG 52 mark_nameEnt.2 :=
  Go.Lf.fn_ok (c := mark_nameCtx) (code := mark_nameCode) (an := mark_nameAnn) (slots := [.tmp 2]) (fn := Go.Proofs.Tryz.f52) (by kernel_rfl) ⟨Tys_ok, Go.Lf.FnsOk.look .nil⟩ (by kernel_rfl) (by kernel_rfl) (by kernel_rfl) (by kernel_rfl) (by kernel_rfl) (Nat.le_of_ble_eq_true rfl) (by simp [Go.Lf.Ty.top]) (by simp [Go.Lf.Ty.top]) fun z r h => (mark_name_eq z).trans h
noncomputable def mark_blankedCtx : Go.Lf.Ctx := ⟨8, Tys, [], [], [], []⟩
noncomputable def mark_blankedCode : Go.Code := (Go.Proofs.Tryz.f53.body).getD .skip
def mark_blankedAnn : Go.Lf.Ann := (.seq .no (.seq (.seq .no (.seq (.join (.more .nrm ⟨[], [], [], []⟩ (.one (.ext 0) ⟨[], [], [], []⟩)) .no) .no)) .no))
noncomputable def mark_blanked (a0 : Int) : Option (Bool) :=
 (bif (decide ((a0 : Int) = (9 : Int))) then some (.inl ())
   else bif (decide ((a0 : Int) = (32 : Int))) then some (.inl ())
   else some (.inr ()) : Option ((Unit) ⊕ (Unit))).bind fun r1 =>
 Go.Lf.onSum r1 (fun a2 =>
 some true) (fun b3 =>
 some false)
theorem mark_blanked_eq (a0 : Int) : Go.Lf.fnE mark_blankedCtx mark_blankedCode mark_blankedAnn [.val (.int .u8)] [.bool] [.tmp 2] (a0) = mark_blanked a0 := by kernel_rfl
noncomputable def mark_blankedEnt : Nat × Go.Lf.Entry := (53, ⟨[.val (.int .u8)], [.bool], fun z => mark_blanked z⟩)
theorem mark_blanked_ok : Go.Lf.EntryOk Go.Proofs.Tryz.prog GG 53 mark_blankedEnt.2 :=
  Go.Lf.fn_ok (c := mark_blankedCtx) (code := mark_blankedCode) (an := mark_blankedAnn) (slots := [.tmp 2]) (fn := Go.Proofs.Tryz.f53) (by kernel_rfl) ⟨Tys_ok, Go.Lf.FnsOk.look .nil⟩ (by kernel_rfl) (by kernel_rfl) (by kernel_rfl) (by kernel_rfl) (by kernel_rfl) (Nat.le_of_ble_eq_true rfl) (by simp [Go.Lf.Ty.top]) (by simp [Go.Lf.Ty.top]) fun z r h => (mark_blanked_eq z).trans h
noncomputable def mark_lexer__directiveCtx : Go.Lf.Ctx := ⟨66, Tys, [mark_wrongEnt, mark_lexer__endEnt, strings_TrimEnt, mark_nameEnt, mark_blankedEnt], [50], [], [(50, (.rw 40 (.st (.pr (.int .i64) (.pr .str (.pr .str (.pr (.int .i64) (.pr (.int .i64) .unit))))))))]⟩
noncomputable def mark_lexer__directiveCode : Go.Code := (Go.Proofs.Tryz.f26.body).getD .skip
def mark_lexer__directiveAnn : Go.Lf.Ann := (.seq .no (.seq .no (.seq .no (.seq (.seq (.join (.one .nrm ⟨[5, 1, 6], [(0, 0, [], 0)], [(30, .bool)], [(0, 43, (.st (.pr (.rw 40 (.st (.pr (.int .i64) (.pr .str (.pr .str (.pr (.int .i64) (.pr (.int .i64) .unit))))))) (.pr (.mr 66 (.st (.pr .str (.pr (.int .i64) (.pr (.int .i64) .unit))))) (.pr (.int .i64) (.pr (.st (.pr (.int .i64) (.pr .str (.pr .str (.pr (.int .i64) (.pr (.int .i64) .unit)))))) (.pr (.st (.pr (.int .i64) (.pr (.int .i64) .unit))) (.pr (.int .i64) (.pr (.int .i64) .unit)))))))))]⟩) .no) (.cnd (.seq (.draw 9) .no) .no)) (.seq .no (.seq (.soup 17) .no))))))
noncomputable def mark_lexer__directive (a0 : (List ((Int) × ((List (UInt8)) × ((List (UInt8)) × ((Int) × ((Int) × (Unit))))))) × ((List ((List (UInt8)) × ((Int) × ((Int) × (Unit))))) × ((Int) × (((Int) × ((List (UInt8)) × ((List (UInt8)) × ((Int) × ((Int) × (Unit)))))) × (((Int) × ((Int) × (Unit))) × ((Int) × ((Int) × (Unit)))))))) (a1 : List (UInt8)) : Option ((Option ((Int) × (((Int) × ((Int) × ((Int) × ((Int) × ((List (UInt8)) × ((List ((List (UInt8)) × ((Int) × (Unit)))) × (Unit))))))) × (Unit)))) × ((List ((Int) × ((List (UInt8)) × ((List (UInt8)) × ((Int) × ((Int) × (Unit))))))) × ((List ((List (UInt8)) × ((Int) × ((Int) × (Unit))))) × ((Int) × (((Int) × ((List (UInt8)) × ((List (UInt8)) × ((Int) × ((Int) × (Unit)))))) × (((Int) × ((Int) × (Unit))) × ((Int) × ((Int) × (Unit))))))))) :=
 ((Go.Lf.sub a1 (1 : Int) (((List.length a1) : Nat) : Int))).bind fun r1 =>
 ((Go.Fn.mark_name r1)).bind fun r2 =>
 ((Go.Lf.sub a1 (Go.IntKind.wrap .i64 ((1 : Int) + r2)) (((List.length a1) : Nat) : Int))).bind fun r3 =>
 (bif (!(decide ((r2 : Int) = (0 : Int)))) then bif (!(decide ((12 : Int) < r2))) then bif (decide ((r3 : List (UInt8)) ≠ ([] : List (UInt8)))) then ((Go.Lf.idx r3 (0 : Int))).bind fun r4 =>
   ((Go.Fn.mark_blanked (((UInt8.toNat r4) : Nat) : Int))).bind fun r5 =>
   some ((!r5), a0)
   else some (false, a0)
   else some (true, a0)
   else some (true, a0)).bind fun r6 =>
 bif r6.1 then ((Go.Lf.sub a1 (1 : Int) (Go.IntKind.wrap .i64 ((1 : Int) + (Min.min r2 (12 : Int)))))).bind fun r7 =>
 ((Go.Fn.mark_wrong (41 : Int) r6.2.2.2.2.2.2.2.1 (2 : Int) r7)).bind fun r8 =>
 some (r8, r6.2)
 else ((Go.Fn.mark_lexer__end r6.2)).bind fun r9 =>
 bif (Option.isSome r9.1) then some (r9.1, r9.2)
 else ((Go.Lf.sub a1 (1 : Int) (Go.IntKind.wrap .i64 ((1 : Int) + r2)))).bind fun r10 =>
 ((Go.Fn.strings_Trim r3 ((32 : UInt8) :: ((9 : UInt8) :: ([] : List (UInt8)))))).bind fun r11 =>
 ((Go.Lf.app (56 : Nat) r9.2.1 (((1 : Int), (r10, (r11, (r9.2.2.2.2.2.2.2.1, ((1 : Int), ()))))) :: ([] : List ((Int) × ((List (UInt8)) × ((List (UInt8)) × ((Int) × ((Int) × (Unit)))))))))).bind fun r12 =>
 some ((none : Option ((Int) × (((Int) × ((Int) × ((Int) × ((Int) × ((List (UInt8)) × ((List ((List (UInt8)) × ((Int) × (Unit)))) × (Unit))))))) × (Unit)))), (r12, r9.2.2))
theorem mark_lexer__directive_eq (a0 : (List ((Int) × ((List (UInt8)) × ((List (UInt8)) × ((Int) × ((Int) × (Unit))))))) × ((List ((List (UInt8)) × ((Int) × ((Int) × (Unit))))) × ((Int) × (((Int) × ((List (UInt8)) × ((List (UInt8)) × ((Int) × ((Int) × (Unit)))))) × (((Int) × ((Int) × (Unit))) × ((Int) × ((Int) × (Unit)))))))) (a1 : List (UInt8)) : Go.Lf.fnE mark_lexer__directiveCtx mark_lexer__directiveCode mark_lexer__directiveAnn [.obj 43 (.st (.pr (.rw 40 (.st (.pr (.int .i64) (.pr .str (.pr .str (.pr (.int .i64) (.pr (.int .i64) .unit))))))) (.pr (.mr 66 (.st (.pr .str (.pr (.int .i64) (.pr (.int .i64) .unit))))) (.pr (.int .i64) (.pr (.st (.pr (.int .i64) (.pr .str (.pr .str (.pr (.int .i64) (.pr (.int .i64) .unit)))))) (.pr (.st (.pr (.int .i64) (.pr (.int .i64) .unit))) (.pr (.int .i64) (.pr (.int .i64) .unit)))))))) (.st (.pr (.rw 40 (.st (.pr (.int .i64) (.pr .str (.pr .str (.pr (.int .i64) (.pr (.int .i64) .unit))))))) (.pr (.mr 66 (.st (.pr .str (.pr (.int .i64) (.pr (.int .i64) .unit))))) (.pr (.int .i64) (.pr (.st (.pr (.int .i64) (.pr .str (.pr .str (.pr (.int .i64) (.pr (.int .i64) .unit)))))) (.pr (.st (.pr (.int .i64) (.pr (.int .i64) .unit))) (.pr (.int .i64) (.pr (.int .i64) .unit)))))))) [], .val .str] [(.eb 80 (.st (.pr (.int .i64) (.pr (.st (.pr (.int .i64) (.pr (.int .i64) (.pr (.int .i64) (.pr (.int .i64) (.pr .str (.pr (.sl (.st (.pr .str (.pr (.int .i64) .unit)))) .unit))))))) .unit))))] [.tmp 4] (a0, a1) = mark_lexer__directive a0 a1 := by kernel_rfl
noncomputable def mark_lexer__directiveEnt : Nat × Go.Lf.Entry := (26, ⟨[.obj 43 (.st (.pr (.rw 40 (.st (.pr (.int .i64) (.pr .str (.pr .str (.pr (.int .i64) (.pr (.int .i64) .unit))))))) (.pr (.mr 66 (.st (.pr .str (.pr (.int .i64) (.pr (.int .i64) .unit))))) (.pr (.int .i64) (.pr (.st (.pr (.int .i64) (.pr .str (.pr .str (.pr (.int .i64) (.pr (.int .i64) .unit)))))) (.pr (.st (.pr (.int .i64) (.pr (.int .i64) .unit))) (.pr (.int .i64) (.pr (.int .i64) .unit)))))))) (.st (.pr (.rw 40 (.st (.pr (.int .i64) (.pr .str (.pr .str (.pr (.int .i64) (.pr (.int .i64) .unit))))))) (.pr (.mr 66 (.st (.pr .str (.pr (.int .i64) (.pr (.int .i64) .unit))))) (.pr (.int .i64) (.pr (.st (.pr (.int .i64) (.pr .str (.pr .str (.pr (.int .i64) (.pr (.int .i64) .unit)))))) (.pr (.st (.pr (.int .i64) (.pr (.int .i64) .unit))) (.pr (.int .i64) (.pr (.int .i64) .unit)))))))) [], .val .str], [(.eb 80 (.st (.pr (.int .i64) (.pr (.st (.pr (.int .i64) (.pr (.int .i64) (.pr (.int .i64) (.pr (.int .i64) (.pr .str (.pr (.sl (.st (.pr .str (.pr (.int .i64) .unit)))) .unit))))))) .unit))))], fun z => mark_lexer__directive z.1 z.2⟩)
theorem mark_lexer__directive_ok : Go.Lf.EntryOk Go.Proofs.Tryz.prog GG 26 mark_lexer__directiveEnt.2 :=
  Go.Lf.fn_ok (c := mark_lexer__directiveCtx) (code := mark_lexer__directiveCode) (an := mark_lexer__directiveAnn) (slots := [.tmp 4]) (fn := Go.Proofs.Tryz.f26) (by kernel_rfl) ⟨Tys_ok, Go.Lf.FnsOk.look (.con mark_wrong_ok (.con mark_lexer__end_ok (.con strings_Trim_ok (.con mark_name_ok (.con mark_blanked_ok .nil)))))⟩ (by kernel_rfl) (by kernel_rfl) (by kernel_rfl) (by kernel_rfl) (by kernel_rfl) (Nat.le_of_ble_eq_true rfl) (by simp [Go.Lf.Ty.top]) (by simp [Go.Lf.Ty.top]) fun z r h => (mark_lexer__directive_eq z.1 z.2).trans h
noncomputable def mark_lexer__waitCtx : Go.Lf.Ctx := ⟨26, Tys, [], [], [], []⟩
noncomputable def mark_lexer__waitCode : Go.Code := (Go.Proofs.Tryz.f55.body).getD .skip
def mark_lexer__waitAnn : Go.Lf.Ann := (.seq (.join (.one .nrm ⟨[1], [(0, 0, [], 0)], [(16, .bool)], [(0, 43, (.st (.pr (.rw 40 (.st (.pr (.int .i64) (.pr .str (.pr .str (.pr (.int .i64) (.pr (.int .i64) .unit))))))) (.pr (.mr 66 (.st (.pr .str (.pr (.int .i64) (.pr (.int .i64) .unit))))) (.pr (.int .i64) (.pr (.st (.pr (.int .i64) (.pr .str (.pr .str (.pr (.int .i64) (.pr (.int .i64) .unit)))))) (.pr (.st (.pr (.int .i64) (.pr (.int .i64) .unit))) (.pr (.int .i64) (.pr (.int .i64) .unit)))))))))]⟩) .no) .no)
noncomputable def mark_lexer__wait (a0 : (List ((Int) × ((List (UInt8)) × ((List (UInt8)) × ((Int) × ((Int) × (Unit))))))) × ((List ((List (UInt8)) × ((Int) × ((Int) × (Unit))))) × ((Int) × (((Int) × ((List (UInt8)) × ((List (UInt8)) × ((Int) × ((Int) × (Unit)))))) × (((Int) × ((Int) × (Unit))) × ((Int) × ((Int) × (Unit)))))))) (a1 : Int) : Option ((List ((Int) × ((List (UInt8)) × ((List (UInt8)) × ((Int) × ((Int) × (Unit))))))) × ((List ((List (UInt8)) × ((Int) × ((Int) × (Unit))))) × ((Int) × (((Int) × ((List (UInt8)) × ((List (UInt8)) × ((Int) × ((Int) × (Unit)))))) × (((Int) × ((Int) × (Unit))) × ((Int) × ((Int) × (Unit)))))))) :=
 (bif (decide ((a0.2.2.2.2.2.1 : Int) = (0 : Int))) then some ((decide (((a0.2.2.2.2.1.1 :: (a0.2.2.2.2.1.2.1 :: ([] : List (Int)))) : List (Int)) = ((0 : Int) :: ((0 : Int) :: ([] : List (Int)))))), a0)
   else some (false, a0)).bind fun r1 =>
 bif r1.1 then some (r1.2.1, (r1.2.2.1, (r1.2.2.2.1, (r1.2.2.2.2.1, ((r1.2.2.2.2.2.2.2.1, (a1, ())), r1.2.2.2.2.2.2)))))
 else some r1.2
theorem mark_lexer__wait_eq (a0 : (List ((Int) × ((List (UInt8)) × ((List (UInt8)) × ((Int) × ((Int) × (Unit))))))) × ((List ((List (UInt8)) × ((Int) × ((Int) × (Unit))))) × ((Int) × (((Int) × ((List (UInt8)) × ((List (UInt8)) × ((Int) × ((Int) × (Unit)))))) × (((Int) × ((Int) × (Unit))) × ((Int) × ((Int) × (Unit)))))))) (a1 : Int) : Go.Lf.fnE mark_lexer__waitCtx mark_lexer__waitCode mark_lexer__waitAnn [.obj 43 (.st (.pr (.rw 40 (.st (.pr (.int .i64) (.pr .str (.pr .str (.pr (.int .i64) (.pr (.int .i64) .unit))))))) (.pr (.mr 66 (.st (.pr .str (.pr (.int .i64) (.pr (.int .i64) .unit))))) (.pr (.int .i64) (.pr (.st (.pr (.int .i64) (.pr .str (.pr .str (.pr (.int .i64) (.pr (.int .i64) .unit)))))) (.pr (.st (.pr (.int .i64) (.pr (.int .i64) .unit))) (.pr (.int .i64) (.pr (.int .i64) .unit)))))))) (.st (.pr (.rw 40 (.st (.pr (.int .i64) (.pr .str (.pr .str (.pr (.int .i64) (.pr (.int .i64) .unit))))))) (.pr (.mr 66 (.st (.pr .str (.pr (.int .i64) (.pr (.int .i64) .unit))))) (.pr (.int .i64) (.pr (.st (.pr (.int .i64) (.pr .str (.pr .str (.pr (.int .i64) (.pr (.int .i64) .unit)))))) (.pr (.st (.pr (.int .i64) (.pr (.int .i64) .unit))) (.pr (.int .i64) (.pr (.int .i64) .unit)))))))) [], .val (.int .i64)] [] [] (a0, a1) = mark_lexer__wait a0 a1 := by kernel_rfl
noncomputable def mark_lexer__waitEnt : Nat × Go.Lf.Entry := (55, ⟨[.obj 43 (.st (.pr (.rw 40 (.st (.pr (.int .i64) (.pr .str (.pr .str (.pr (.int .i64) (.pr (.int .i64) .unit))))))) (.pr (.mr 66 (.st (.pr .str (.pr (.int .i64) (.pr (.int .i64) .unit))))) (.pr (.int .i64) (.pr (.st (.pr (.int .i64) (.pr .str (.pr .str (.pr (.int .i64) (.pr (.int .i64) .unit)))))) (.pr (.st (.pr (.int .i64) (.pr (.int .i64) .unit))) (.pr (.int .i64) (.pr (.int .i64) .unit)))))))) (.st (.pr (.rw 40 (.st (.pr (.int .i64) (.pr .str (.pr .str (.pr (.int .i64) (.pr (.int .i64) .unit))))))) (.pr (.mr 66 (.st (.pr .str (.pr (.int .i64) (.pr (.int .i64) .unit))))) (.pr (.int .i64) (.pr (.st (.pr (.int .i64) (.pr .str (.pr .str (.pr (.int .i64) (.pr (.int .i64) .unit)))))) (.pr (.st (.pr (.int .i64) (.pr (.int .i64) .unit))) (.pr (.int .i64) (.pr (.int .i64) .unit)))))))) [], .val (.int .i64)], [], fun z => mark_lexer__wait z.1 z.2⟩)
theorem mark_lexer__wait_ok : Go.Lf.EntryOk Go.Proofs.Tryz.prog GG 55 mark_lexer__waitEnt.2 :=
  Go.Lf.fn_ok (c := mark_lexer__waitCtx) (code := mark_lexer__waitCode) (an := mark_lexer__waitAnn) (slots := []) (fn := Go.Proofs.Tryz.f55) (by kernel_rfl) ⟨Tys_ok, Go.Lf.FnsOk.look .nil⟩ (by kernel_rfl) (by kernel_rfl) (by kernel_rfl) (by kernel_rfl) (by kernel_rfl) (Nat.le_of_ble_eq_true rfl) (by simp [Go.Lf.Ty.top]) (by simp [Go.Lf.Ty.top]) fun z r h => (mark_lexer__wait_eq z.1 z.2).trans h
noncomputable def mark_lexer__putCtx : Go.Lf.Ctx := ⟨30, Tys, [], [], [], []⟩
noncomputable def mark_lexer__putCode : Go.Code := (Go.Proofs.Tryz.f84.body).getD .skip
def mark_lexer__putAnn : Go.Lf.Ann := (.seq (.join (.one .nrm ⟨[1], [(0, 0, [], 0)], [], [(0, 43, (.st (.pr (.rw 40 (.st (.pr (.int .i64) (.pr .str (.pr .str (.pr (.int .i64) (.pr (.int .i64) .unit))))))) (.pr (.mr 66 (.st (.pr .str (.pr (.int .i64) (.pr (.int .i64) .unit))))) (.pr (.int .i64) (.pr (.st (.pr (.int .i64) (.pr .str (.pr .str (.pr (.int .i64) (.pr (.int .i64) .unit)))))) (.pr (.st (.pr (.int .i64) (.pr (.int .i64) .unit))) (.pr (.int .i64) (.pr (.int .i64) .unit)))))))))]⟩) .no) .no)
noncomputable def mark_lexer__put (a0 : (List ((Int) × ((List (UInt8)) × ((List (UInt8)) × ((Int) × ((Int) × (Unit))))))) × ((List ((List (UInt8)) × ((Int) × ((Int) × (Unit))))) × ((Int) × (((Int) × ((List (UInt8)) × ((List (UInt8)) × ((Int) × ((Int) × (Unit)))))) × (((Int) × ((Int) × (Unit))) × ((Int) × ((Int) × (Unit)))))))) (a1 : List (UInt8)) (a2 : Int) (a3 : Int) : Option ((List ((Int) × ((List (UInt8)) × ((List (UInt8)) × ((Int) × ((Int) × (Unit))))))) × ((List ((List (UInt8)) × ((Int) × ((Int) × (Unit))))) × ((Int) × (((Int) × ((List (UInt8)) × ((List (UInt8)) × ((Int) × ((Int) × (Unit)))))) × (((Int) × ((Int) × (Unit))) × ((Int) × ((Int) × (Unit)))))))) :=
 (bif (decide ((a0.2.2.2.1.2.2.1 : List (UInt8)) = ([] : List (UInt8)))) then some (a0.1, (a0.2.1, (a0.2.2.1, (((6 : Int), (([] : List (UInt8)), (([] : List (UInt8)), (a2, (a3, ()))))), a0.2.2.2.2))))
   else some a0).bind fun r1 =>
 ((Go.Lf.cat r1.2.2.2.1.2.2.1 a1)).bind fun r2 =>
 some (r1.1, (r1.2.1, (r1.2.2.1, ((r1.2.2.2.1.1, (r1.2.2.2.1.2.1, (r2, r1.2.2.2.1.2.2.2))), r1.2.2.2.2))))
theorem mark_lexer__put_eq (a0 : (List ((Int) × ((List (UInt8)) × ((List (UInt8)) × ((Int) × ((Int) × (Unit))))))) × ((List ((List (UInt8)) × ((Int) × ((Int) × (Unit))))) × ((Int) × (((Int) × ((List (UInt8)) × ((List (UInt8)) × ((Int) × ((Int) × (Unit)))))) × (((Int) × ((Int) × (Unit))) × ((Int) × ((Int) × (Unit)))))))) (a1 : List (UInt8)) (a2 : Int) (a3 : Int) : Go.Lf.fnE mark_lexer__putCtx mark_lexer__putCode mark_lexer__putAnn [.obj 43 (.st (.pr (.rw 40 (.st (.pr (.int .i64) (.pr .str (.pr .str (.pr (.int .i64) (.pr (.int .i64) .unit))))))) (.pr (.mr 66 (.st (.pr .str (.pr (.int .i64) (.pr (.int .i64) .unit))))) (.pr (.int .i64) (.pr (.st (.pr (.int .i64) (.pr .str (.pr .str (.pr (.int .i64) (.pr (.int .i64) .unit)))))) (.pr (.st (.pr (.int .i64) (.pr (.int .i64) .unit))) (.pr (.int .i64) (.pr (.int .i64) .unit)))))))) (.st (.pr (.rw 40 (.st (.pr (.int .i64) (.pr .str (.pr .str (.pr (.int .i64) (.pr (.int .i64) .unit))))))) (.pr (.mr 66 (.st (.pr .str (.pr (.int .i64) (.pr (.int .i64) .unit))))) (.pr (.int .i64) (.pr (.st (.pr (.int .i64) (.pr .str (.pr .str (.pr (.int .i64) (.pr (.int .i64) .unit)))))) (.pr (.st (.pr (.int .i64) (.pr (.int .i64) .unit))) (.pr (.int .i64) (.pr (.int .i64) .unit)))))))) [], .val .str, .val (.int .i64), .val (.int .i64)] [] [] (a0, a1, a2, a3) = mark_lexer__put a0 a1 a2 a3 := by kernel_rfl
noncomputable def mark_lexer__putEnt : Nat × Go.Lf.Entry := (84, ⟨[.obj 43 (.st (.pr (.rw 40 (.st (.pr (.int .i64) (.pr .str (.pr .str (.pr (.int .i64) (.pr (.int .i64) .unit))))))) (.pr (.mr 66 (.st (.pr .str (.pr (.int .i64) (.pr (.int .i64) .unit))))) (.pr (.int .i64) (.pr (.st (.pr (.int .i64) (.pr .str (.pr .str (.pr (.int .i64) (.pr (.int .i64) .unit)))))) (.pr (.st (.pr (.int .i64) (.pr (.int .i64) .unit))) (.pr (.int .i64) (.pr (.int .i64) .unit)))))))) (.st (.pr (.rw 40 (.st (.pr (.int .i64) (.pr .str (.pr .str (.pr (.int .i64) (.pr (.int .i64) .unit))))))) (.pr (.mr 66 (.st (.pr .str (.pr (.int .i64) (.pr (.int .i64) .unit))))) (.pr (.int .i64) (.pr (.st (.pr (.int .i64) (.pr .str (.pr .str (.pr (.int .i64) (.pr (.int .i64) .unit)))))) (.pr (.st (.pr (.int .i64) (.pr (.int .i64) .unit))) (.pr (.int .i64) (.pr (.int .i64) .unit)))))))) [], .val .str, .val (.int .i64), .val (.int .i64)], [], fun z => mark_lexer__put z.1 z.2.1 z.2.2.1 z.2.2.2⟩)
theorem mark_lexer__put_ok : Go.Lf.EntryOk Go.Proofs.Tryz.prog GG 84 mark_lexer__putEnt.2 :=
  Go.Lf.fn_ok (c := mark_lexer__putCtx) (code := mark_lexer__putCode) (an := mark_lexer__putAnn) (slots := []) (fn := Go.Proofs.Tryz.f84) (by kernel_rfl) ⟨Tys_ok, Go.Lf.FnsOk.look .nil⟩ (by kernel_rfl) (by kernel_rfl) (by kernel_rfl) (by kernel_rfl) (by kernel_rfl) (Nat.le_of_ble_eq_true rfl) (by simp [Go.Lf.Ty.top]) (by simp [Go.Lf.Ty.top]) fun z r h => (mark_lexer__put_eq z.1 z.2.1 z.2.2.1 z.2.2.2).trans h
noncomputable def mark_lexer__settleCtx : Go.Lf.Ctx := ⟨27, Tys, [mark_lexer__putEnt], [], [], []⟩
noncomputable def mark_lexer__settleCode : Go.Code := (Go.Proofs.Tryz.f83.body).getD .skip
def mark_lexer__settleAnn : Go.Lf.Ann := (.seq (.join (.one .nrm ⟨[], [(0, 0, [], 0)], [], [(0, 43, (.st (.pr (.rw 40 (.st (.pr (.int .i64) (.pr .str (.pr .str (.pr (.int .i64) (.pr (.int .i64) .unit))))))) (.pr (.mr 66 (.st (.pr .str (.pr (.int .i64) (.pr (.int .i64) .unit))))) (.pr (.int .i64) (.pr (.st (.pr (.int .i64) (.pr .str (.pr .str (.pr (.int .i64) (.pr (.int .i64) .unit)))))) (.pr (.st (.pr (.int .i64) (.pr (.int .i64) .unit))) (.pr (.int .i64) (.pr (.int .i64) .unit)))))))))]⟩) (.seq .no (.cnd (.seq (.draw 11) .no) .no))) .no)
noncomputable def mark_lexer__settle (a0 : (List ((Int) × ((List (UInt8)) × ((List (UInt8)) × ((Int) × ((Int) × (Unit))))))) × ((List ((List (UInt8)) × ((Int) × ((Int) × (Unit))))) × ((Int) × (((Int) × ((List (UInt8)) × ((List (UInt8)) × ((Int) × ((Int) × (Unit)))))) × (((Int) × ((Int) × (Unit))) × ((Int) × ((Int) × (Unit)))))))) : Option ((List ((Int) × ((List (UInt8)) × ((List (UInt8)) × ((Int) × ((Int) × (Unit))))))) × ((List ((List (UInt8)) × ((Int) × ((Int) × (Unit))))) × ((Int) × (((Int) × ((List (UInt8)) × ((List (UInt8)) × ((Int) × ((Int) × (Unit)))))) × (((Int) × ((Int) × (Unit))) × ((Int) × ((Int) × (Unit)))))))) :=
 (bif (!(decide (((a0.2.2.2.2.1.1 :: (a0.2.2.2.2.1.2.1 :: ([] : List (Int)))) : List (Int)) = ((0 : Int) :: ((0 : Int) :: ([] : List (Int))))))) then ((Go.Fn.mark_lexer__put a0 ((32 : UInt8) :: ([] : List (UInt8))) a0.2.2.2.2.1.1 a0.2.2.2.2.1.2.1)).bind fun r1 =>
   some (r1.1, (r1.2.1, (r1.2.2.1, (r1.2.2.2.1, (((0 : Int), ((0 : Int), ())), r1.2.2.2.2.2)))))
   else some a0).bind fun r2 =>
 some (r2.1, (r2.2.1, (r2.2.2.1, (r2.2.2.2.1, (r2.2.2.2.2.1, ((0 : Int), r2.2.2.2.2.2.2))))))
theorem mark_lexer__settle_eq (a0 : (List ((Int) × ((List (UInt8)) × ((List (UInt8)) × ((Int) × ((Int) × (Unit))))))) × ((List ((List (UInt8)) × ((Int) × ((Int) × (Unit))))) × ((Int) × (((Int) × ((List (UInt8)) × ((List (UInt8)) × ((Int) × ((Int) × (Unit)))))) × (((Int) × ((Int) × (Unit))) × ((Int) × ((Int) × (Unit)))))))) : Go.Lf.fnE mark_lexer__settleCtx mark_lexer__settleCode mark_lexer__settleAnn [.obj 43 (.st (.pr (.rw 40 (.st (.pr (.int .i64) (.pr .str (.pr .str (.pr (.int .i64) (.pr (.int .i64) .unit))))))) (.pr (.mr 66 (.st (.pr .str (.pr (.int .i64) (.pr (.int .i64) .unit))))) (.pr (.int .i64) (.pr (.st (.pr (.int .i64) (.pr .str (.pr .str (.pr (.int .i64) (.pr (.int .i64) .unit)))))) (.pr (.st (.pr (.int .i64) (.pr (.int .i64) .unit))) (.pr (.int .i64) (.pr (.int .i64) .unit)))))))) (.st (.pr (.rw 40 (.st (.pr (.int .i64) (.pr .str (.pr .str (.pr (.int .i64) (.pr (.int .i64) .unit))))))) (.pr (.mr 66 (.st (.pr .str (.pr (.int .i64) (.pr (.int .i64) .unit))))) (.pr (.int .i64) (.pr (.st (.pr (.int .i64) (.pr .str (.pr .str (.pr (.int .i64) (.pr (.int .i64) .unit)))))) (.pr (.st (.pr (.int .i64) (.pr (.int .i64) .unit))) (.pr (.int .i64) (.pr (.int .i64) .unit)))))))) []] [] [] (a0) = mark_lexer__settle a0 := by kernel_rfl
noncomputable def mark_lexer__settleEnt : Nat × Go.Lf.Entry := (83, ⟨[.obj 43 (.st (.pr (.rw 40 (.st (.pr (.int .i64) (.pr .str (.pr .str (.pr (.int .i64) (.pr (.int .i64) .unit))))))) (.pr (.mr 66 (.st (.pr .str (.pr (.int .i64) (.pr (.int .i64) .unit))))) (.pr (.int .i64) (.pr (.st (.pr (.int .i64) (.pr .str (.pr .str (.pr (.int .i64) (.pr (.int .i64) .unit)))))) (.pr (.st (.pr (.int .i64) (.pr (.int .i64) .unit))) (.pr (.int .i64) (.pr (.int .i64) .unit)))))))) (.st (.pr (.rw 40 (.st (.pr (.int .i64) (.pr .str (.pr .str (.pr (.int .i64) (.pr (.int .i64) .unit))))))) (.pr (.mr 66 (.st (.pr .str (.pr (.int .i64) (.pr (.int .i64) .unit))))) (.pr (.int .i64) (.pr (.st (.pr (.int .i64) (.pr .str (.pr .str (.pr (.int .i64) (.pr (.int .i64) .unit)))))) (.pr (.st (.pr (.int .i64) (.pr (.int .i64) .unit))) (.pr (.int .i64) (.pr (.int .i64) .unit)))))))) []], [], fun z => mark_lexer__settle z⟩)
theorem mark_lexer__settle_ok : Go.Lf.EntryOk Go.Proofs.Tryz.prog GG 83 mark_lexer__settleEnt.2 :=
  Go.Lf.fn_ok (c := mark_lexer__settleCtx) (code := mark_lexer__settleCode) (an := mark_lexer__settleAnn) (slots := []) (fn := Go.Proofs.Tryz.f83) (by kernel_rfl) ⟨Tys_ok, Go.Lf.FnsOk.look (.con mark_lexer__put_ok .nil)⟩ (by kernel_rfl) (by kernel_rfl) (by kernel_rfl) (by kernel_rfl) (by kernel_rfl) (Nat.le_of_ble_eq_true rfl) (by simp [Go.Lf.Ty.top]) (by simp [Go.Lf.Ty.top]) fun z r h => (mark_lexer__settle_eq z).trans h
noncomputable def mark_lexer__escapeCtx : Go.Lf.Ctx := ⟨69, Tys, [mark_wrongEnt, strings_IndexByteEnt, utf8_DecodeRuneInStringEnt, mark_lexer__settleEnt, mark_lexer__putEnt], [], [], []⟩
noncomputable def mark_lexer__escapeCode : Go.Code := (Go.Proofs.Tryz.f80.body).getD .skip
def mark_lexer__escapeAnn : Go.Lf.Ann := (.seq .no (.seq (.seq (.join (.one .nrm ⟨[2, 1], [(0, 0, [], 0)], [(23, .bool)], [(0, 43, (.st (.pr (.rw 40 (.st (.pr (.int .i64) (.pr .str (.pr .str (.pr (.int .i64) (.pr (.int .i64) .unit))))))) (.pr (.mr 66 (.st (.pr .str (.pr (.int .i64) (.pr (.int .i64) .unit))))) (.pr (.int .i64) (.pr (.st (.pr (.int .i64) (.pr .str (.pr .str (.pr (.int .i64) (.pr (.int .i64) .unit)))))) (.pr (.st (.pr (.int .i64) (.pr (.int .i64) .unit))) (.pr (.int .i64) (.pr (.int .i64) .unit)))))))))]⟩) .no) (.cnd (.seq .no (.seq (.draw 13) .no)) .no)) (.seq .no (.seq (.join (.one .nrm ⟨[2], [(0, 0, [], 0)], [(8, .str)], [(0, 43, (.st (.pr (.rw 40 (.st (.pr (.int .i64) (.pr .str (.pr .str (.pr (.int .i64) (.pr (.int .i64) .unit))))))) (.pr (.mr 66 (.st (.pr .str (.pr (.int .i64) (.pr (.int .i64) .unit))))) (.pr (.int .i64) (.pr (.st (.pr (.int .i64) (.pr .str (.pr .str (.pr (.int .i64) (.pr (.int .i64) .unit)))))) (.pr (.st (.pr (.int .i64) (.pr (.int .i64) .unit))) (.pr (.int .i64) (.pr (.int .i64) .unit)))))))))]⟩) .no) .no))))
noncomputable def mark_lexer__escape (a0 : (List ((Int) × ((List (UInt8)) × ((List (UInt8)) × ((Int) × ((Int) × (Unit))))))) × ((List ((List (UInt8)) × ((Int) × ((Int) × (Unit))))) × ((Int) × (((Int) × ((List (UInt8)) × ((List (UInt8)) × ((Int) × ((Int) × (Unit)))))) × (((Int) × ((Int) × (Unit))) × ((Int) × ((Int) × (Unit)))))))) (a1 : List (UInt8)) (a2 : Int) : Option ((Int) × ((Option ((Int) × (((Int) × ((Int) × ((Int) × ((Int) × ((List (UInt8)) × ((List ((List (UInt8)) × ((Int) × (Unit)))) × (Unit))))))) × (Unit)))) × ((List ((Int) × ((List (UInt8)) × ((List (UInt8)) × ((Int) × ((Int) × (Unit))))))) × ((List ((List (UInt8)) × ((Int) × ((Int) × (Unit))))) × ((Int) × (((Int) × ((List (UInt8)) × ((List (UInt8)) × ((Int) × ((Int) × (Unit)))))) × (((Int) × ((Int) × (Unit))) × ((Int) × ((Int) × (Unit)))))))))) :=
 (bif (decide ((Go.IntKind.wrap .i64 (a2 + (1 : Int))) < (((List.length a1) : Nat) : Int))) then ((Go.Lf.idx a1 (Go.IntKind.wrap .i64 (a2 + (1 : Int))))).bind fun r1 =>
   ((Go.Fn.strings_IndexByte ((92 : UInt8) :: ((123 : UInt8) :: ((125 : UInt8) :: ((124 : UInt8) :: ((46 : UInt8) :: ((35 : UInt8) :: ([] : List (UInt8)))))))) (((UInt8.toNat r1) : Nat) : Int))).bind fun r2 =>
   some ((decide ((0 : Int) ≤ r2)), a0)
   else some (false, a0)).bind fun r3 =>
 bif r3.1 then ((Go.Fn.mark_lexer__settle r3.2)).bind fun r4 =>
 ((Go.Lf.sub a1 (Go.IntKind.wrap .i64 (a2 + (1 : Int))) (Go.IntKind.wrap .i64 (a2 + (2 : Int))))).bind fun r5 =>
 ((Go.Fn.mark_lexer__put r4 r5 r4.2.2.2.2.2.2.1 (Go.IntKind.wrap .i64 (a2 + (1 : Int))))).bind fun r6 =>
 some ((2 : Int), ((none : Option ((Int) × (((Int) × ((Int) × ((Int) × ((Int) × ((List (UInt8)) × ((List ((List (UInt8)) × ((Int) × (Unit)))) × (Unit))))))) × (Unit)))), r6))
 else (bif (decide ((Go.IntKind.wrap .i64 (a2 + (1 : Int))) < (((List.length a1) : Nat) : Int))) then ((Go.Lf.sub a1 (Go.IntKind.wrap .i64 (a2 + (1 : Int))) (((List.length a1) : Nat) : Int))).bind fun r7 =>
   ((Go.Fn.utf8_DecodeRuneInString r7)).bind fun r8 =>
   ((Go.Lf.sub a1 (Go.IntKind.wrap .i64 (a2 + (1 : Int))) (Go.IntKind.wrap .i64 ((Go.IntKind.wrap .i64 (a2 + (1 : Int))) + r8.2)))).bind fun r9 =>
   some (r9, r3.2)
   else some (([] : List (UInt8)), r3.2)).bind fun r10 =>
 ((Go.Fn.mark_wrong (42 : Int) r10.2.2.2.2.2.2.2.1 (Go.IntKind.wrap .i64 (a2 + (1 : Int))) r10.1)).bind fun r11 =>
 some ((0 : Int), (r11, r10.2))
theorem mark_lexer__escape_eq (a0 : (List ((Int) × ((List (UInt8)) × ((List (UInt8)) × ((Int) × ((Int) × (Unit))))))) × ((List ((List (UInt8)) × ((Int) × ((Int) × (Unit))))) × ((Int) × (((Int) × ((List (UInt8)) × ((List (UInt8)) × ((Int) × ((Int) × (Unit)))))) × (((Int) × ((Int) × (Unit))) × ((Int) × ((Int) × (Unit)))))))) (a1 : List (UInt8)) (a2 : Int) : Go.Lf.fnE mark_lexer__escapeCtx mark_lexer__escapeCode mark_lexer__escapeAnn [.obj 43 (.st (.pr (.rw 40 (.st (.pr (.int .i64) (.pr .str (.pr .str (.pr (.int .i64) (.pr (.int .i64) .unit))))))) (.pr (.mr 66 (.st (.pr .str (.pr (.int .i64) (.pr (.int .i64) .unit))))) (.pr (.int .i64) (.pr (.st (.pr (.int .i64) (.pr .str (.pr .str (.pr (.int .i64) (.pr (.int .i64) .unit)))))) (.pr (.st (.pr (.int .i64) (.pr (.int .i64) .unit))) (.pr (.int .i64) (.pr (.int .i64) .unit)))))))) (.st (.pr (.rw 40 (.st (.pr (.int .i64) (.pr .str (.pr .str (.pr (.int .i64) (.pr (.int .i64) .unit))))))) (.pr (.mr 66 (.st (.pr .str (.pr (.int .i64) (.pr (.int .i64) .unit))))) (.pr (.int .i64) (.pr (.st (.pr (.int .i64) (.pr .str (.pr .str (.pr (.int .i64) (.pr (.int .i64) .unit)))))) (.pr (.st (.pr (.int .i64) (.pr (.int .i64) .unit))) (.pr (.int .i64) (.pr (.int .i64) .unit)))))))) [], .val .str, .val (.int .i64)] [(.int .i64), (.eb 80 (.st (.pr (.int .i64) (.pr (.st (.pr (.int .i64) (.pr (.int .i64) (.pr (.int .i64) (.pr (.int .i64) (.pr .str (.pr (.sl (.st (.pr .str (.pr (.int .i64) .unit)))) .unit))))))) .unit))))] [.tmp 6, .tmp 7] (a0, a1, a2) = mark_lexer__escape a0 a1 a2 := by kernel_rfl
noncomputable def mark_lexer__escapeEnt : Nat × Go.Lf.Entry := (80, ⟨[.obj 43 (.st (.pr (.rw 40 (.st (.pr (.int .i64) (.pr .str (.pr .str (.pr (.int .i64) (.pr (.int .i64) .unit))))))) (.pr (.mr 66 (.st (.pr .str (.pr (.int .i64) (.pr (.int .i64) .unit))))) (.pr (.int .i64) (.pr (.st (.pr (.int .i64) (.pr .str (.pr .str (.pr (.int .i64) (.pr (.int .i64) .unit)))))) (.pr (.st (.pr (.int .i64) (.pr (.int .i64) .unit))) (.pr (.int .i64) (.pr (.int .i64) .unit)))))))) (.st (.pr (.rw 40 (.st (.pr (.int .i64) (.pr .str (.pr .str (.pr (.int .i64) (.pr (.int .i64) .unit))))))) (.pr (.mr 66 (.st (.pr .str (.pr (.int .i64) (.pr (.int .i64) .unit))))) (.pr (.int .i64) (.pr (.st (.pr (.int .i64) (.pr .str (.pr .str (.pr (.int .i64) (.pr (.int .i64) .unit)))))) (.pr (.st (.pr (.int .i64) (.pr (.int .i64) .unit))) (.pr (.int .i64) (.pr (.int .i64) .unit)))))))) [], .val .str, .val (.int .i64)], [(.int .i64), (.eb 80 (.st (.pr (.int .i64) (.pr (.st (.pr (.int .i64) (.pr (.int .i64) (.pr (.int .i64) (.pr (.int .i64) (.pr .str (.pr (.sl (.st (.pr .str (.pr (.int .i64) .unit)))) .unit))))))) .unit))))], fun z => mark_lexer__escape z.1 z.2.1 z.2.2⟩)
theorem mark_lexer__escape_ok : Go.Lf.EntryOk Go.Proofs.Tryz.prog GG 80 mark_lexer__escapeEnt.2 :=
  Go.Lf.fn_ok (c := mark_lexer__escapeCtx) (code := mark_lexer__escapeCode) (an := mark_lexer__escapeAnn) (slots := [.tmp 6, .tmp 7]) (fn := Go.Proofs.Tryz.f80) (by kernel_rfl) ⟨Tys_ok, Go.Lf.FnsOk.look (.con mark_wrong_ok (.con strings_IndexByte_ok (.con utf8_DecodeRuneInString_ok (.con mark_lexer__settle_ok (.con mark_lexer__put_ok .nil)))))⟩ (by kernel_rfl) (by kernel_rfl) (by kernel_rfl) (by kernel_rfl) (by kernel_rfl) (Nat.le_of_ble_eq_true rfl) (by simp [Go.Lf.Ty.top]) (by simp [Go.Lf.Ty.top]) fun z r h => (mark_lexer__escape_eq z.1 z.2.1 z.2.2).trans h
noncomputable def mark_lexer__tokenCtx : Go.Lf.Ctx := ⟨29, Tys, [mark_lexer__flushEnt, mark_lexer__settleEnt], [16], [], [(16, (.rw 40 (.st (.pr (.int .i64) (.pr .str (.pr .str (.pr (.int .i64) (.pr (.int .i64) .unit))))))))]⟩
noncomputable def mark_lexer__tokenCode : Go.Code := (Go.Proofs.Tryz.f82.body).getD .skip
def mark_lexer__tokenAnn : Go.Lf.Ann := (.seq .no (.seq .no (.soup 14)))
noncomputable def mark_lexer__token (a0 : (List ((Int) × ((List (UInt8)) × ((List (UInt8)) × ((Int) × ((Int) × (Unit))))))) × ((List ((List (UInt8)) × ((Int) × ((Int) × (Unit))))) × ((Int) × (((Int) × ((List (UInt8)) × ((List (UInt8)) × ((Int) × ((Int) × (Unit)))))) × (((Int) × ((Int) × (Unit))) × ((Int) × ((Int) × (Unit)))))))) (a1 : Int) (a2 : List (UInt8)) (a3 : Int) : Option ((List ((Int) × ((List (UInt8)) × ((List (UInt8)) × ((Int) × ((Int) × (Unit))))))) × ((List ((List (UInt8)) × ((Int) × ((Int) × (Unit))))) × ((Int) × (((Int) × ((List (UInt8)) × ((List (UInt8)) × ((Int) × ((Int) × (Unit)))))) × (((Int) × ((Int) × (Unit))) × ((Int) × ((Int) × (Unit)))))))) :=
 ((Go.Fn.mark_lexer__settle a0)).bind fun r1 =>
 ((Go.Fn.mark_lexer__flush r1)).bind fun r2 =>
 ((Go.Lf.app (56 : Nat) r2.1 ((a1, (a2, (([] : List (UInt8)), (r2.2.2.2.2.2.2.1, (a3, ()))))) :: ([] : List ((Int) × ((List (UInt8)) × ((List (UInt8)) × ((Int) × ((Int) × (Unit)))))))))).bind fun r3 =>
 some (r3, r2.2)
theorem mark_lexer__token_eq (a0 : (List ((Int) × ((List (UInt8)) × ((List (UInt8)) × ((Int) × ((Int) × (Unit))))))) × ((List ((List (UInt8)) × ((Int) × ((Int) × (Unit))))) × ((Int) × (((Int) × ((List (UInt8)) × ((List (UInt8)) × ((Int) × ((Int) × (Unit)))))) × (((Int) × ((Int) × (Unit))) × ((Int) × ((Int) × (Unit)))))))) (a1 : Int) (a2 : List (UInt8)) (a3 : Int) : Go.Lf.fnE mark_lexer__tokenCtx mark_lexer__tokenCode mark_lexer__tokenAnn [.obj 43 (.st (.pr (.rw 40 (.st (.pr (.int .i64) (.pr .str (.pr .str (.pr (.int .i64) (.pr (.int .i64) .unit))))))) (.pr (.mr 66 (.st (.pr .str (.pr (.int .i64) (.pr (.int .i64) .unit))))) (.pr (.int .i64) (.pr (.st (.pr (.int .i64) (.pr .str (.pr .str (.pr (.int .i64) (.pr (.int .i64) .unit)))))) (.pr (.st (.pr (.int .i64) (.pr (.int .i64) .unit))) (.pr (.int .i64) (.pr (.int .i64) .unit)))))))) (.st (.pr (.rw 40 (.st (.pr (.int .i64) (.pr .str (.pr .str (.pr (.int .i64) (.pr (.int .i64) .unit))))))) (.pr (.mr 66 (.st (.pr .str (.pr (.int .i64) (.pr (.int .i64) .unit))))) (.pr (.int .i64) (.pr (.st (.pr (.int .i64) (.pr .str (.pr .str (.pr (.int .i64) (.pr (.int .i64) .unit)))))) (.pr (.st (.pr (.int .i64) (.pr (.int .i64) .unit))) (.pr (.int .i64) (.pr (.int .i64) .unit)))))))) [], .val (.int .i64), .val .str, .val (.int .i64)] [] [] (a0, a1, a2, a3) = mark_lexer__token a0 a1 a2 a3 := by kernel_rfl
noncomputable def mark_lexer__tokenEnt : Nat × Go.Lf.Entry := (82, ⟨[.obj 43 (.st (.pr (.rw 40 (.st (.pr (.int .i64) (.pr .str (.pr .str (.pr (.int .i64) (.pr (.int .i64) .unit))))))) (.pr (.mr 66 (.st (.pr .str (.pr (.int .i64) (.pr (.int .i64) .unit))))) (.pr (.int .i64) (.pr (.st (.pr (.int .i64) (.pr .str (.pr .str (.pr (.int .i64) (.pr (.int .i64) .unit)))))) (.pr (.st (.pr (.int .i64) (.pr (.int .i64) .unit))) (.pr (.int .i64) (.pr (.int .i64) .unit)))))))) (.st (.pr (.rw 40 (.st (.pr (.int .i64) (.pr .str (.pr .str (.pr (.int .i64) (.pr (.int .i64) .unit))))))) (.pr (.mr 66 (.st (.pr .str (.pr (.int .i64) (.pr (.int .i64) .unit))))) (.pr (.int .i64) (.pr (.st (.pr (.int .i64) (.pr .str (.pr .str (.pr (.int .i64) (.pr (.int .i64) .unit)))))) (.pr (.st (.pr (.int .i64) (.pr (.int .i64) .unit))) (.pr (.int .i64) (.pr (.int .i64) .unit)))))))) [], .val (.int .i64), .val .str, .val (.int .i64)], [], fun z => mark_lexer__token z.1 z.2.1 z.2.2.1 z.2.2.2⟩)
theorem mark_lexer__token_ok : Go.Lf.EntryOk Go.Proofs.Tryz.prog GG 82 mark_lexer__tokenEnt.2 :=
  Go.Lf.fn_ok (c := mark_lexer__tokenCtx) (code := mark_lexer__tokenCode) (an := mark_lexer__tokenAnn) (slots := []) (fn := Go.Proofs.Tryz.f82) (by kernel_rfl) ⟨Tys_ok, Go.Lf.FnsOk.look (.con mark_lexer__flush_ok (.con mark_lexer__settle_ok .nil))⟩ (by kernel_rfl) (by kernel_rfl) (by kernel_rfl) (by kernel_rfl) (by kernel_rfl) (Nat.le_of_ble_eq_true rfl) (by simp [Go.Lf.Ty.top]) (by simp [Go.Lf.Ty.top]) fun z r h => (mark_lexer__token_eq z.1 z.2.1 z.2.2.1 z.2.2.2).trans h
noncomputable def mark_lexer__braceCtx : Go.Lf.Ctx := ⟨104, Tys, [mark_wrongEnt, mark_nameEnt, mark_blankedEnt, mark_lexer__tokenEnt], [86], [], [(86, (.rw 66 (.st (.pr .str (.pr (.int .i64) (.pr (.int .i64) .unit))))))]⟩
noncomputable def mark_lexer__braceCode : Go.Code := (Go.Proofs.Tryz.f81.body).getD .skip
def mark_lexer__braceAnn : Go.Lf.Ann := (.seq .no (.seq .no (.seq .no (.seq (.seq (.join (.one .nrm ⟨[2, 8, 9, 1], [(0, 0, [], 0)], [(50, .bool)], [(0, 43, (.st (.pr (.rw 40 (.st (.pr (.int .i64) (.pr .str (.pr .str (.pr (.int .i64) (.pr (.int .i64) .unit))))))) (.pr (.mr 66 (.st (.pr .str (.pr (.int .i64) (.pr (.int .i64) .unit))))) (.pr (.int .i64) (.pr (.st (.pr (.int .i64) (.pr .str (.pr .str (.pr (.int .i64) (.pr (.int .i64) .unit)))))) (.pr (.st (.pr (.int .i64) (.pr (.int .i64) .unit))) (.pr (.int .i64) (.pr (.int .i64) .unit)))))))))]⟩) .no) .no) (.seq .no (.seq .no (.seq .no (.seq (.soup 14) .no))))))))
noncomputable def mark_lexer__brace (a0 : (List ((Int) × ((List (UInt8)) × ((List (UInt8)) × ((Int) × ((Int) × (Unit))))))) × ((List ((List (UInt8)) × ((Int) × ((Int) × (Unit))))) × ((Int) × (((Int) × ((List (UInt8)) × ((List (UInt8)) × ((Int) × ((Int) × (Unit)))))) × (((Int) × ((Int) × (Unit))) × ((Int) × ((Int) × (Unit)))))))) (a1 : List (UInt8)) (a2 : Int) : Option ((Int) × ((Option ((Int) × (((Int) × ((Int) × ((Int) × ((Int) × ((List (UInt8)) × ((List ((List (UInt8)) × ((Int) × (Unit)))) × (Unit))))))) × (Unit)))) × ((List ((Int) × ((List (UInt8)) × ((List (UInt8)) × ((Int) × ((Int) × (Unit))))))) × ((List ((List (UInt8)) × ((Int) × ((Int) × (Unit))))) × ((Int) × (((Int) × ((List (UInt8)) × ((List (UInt8)) × ((Int) × ((Int) × (Unit)))))) × (((Int) × ((Int) × (Unit))) × ((Int) × ((Int) × (Unit)))))))))) :=
 ((Go.Lf.sub a1 (Go.IntKind.wrap .i64 (a2 + (1 : Int))) (((List.length a1) : Nat) : Int))).bind fun r1 =>
 ((Go.Fn.mark_name r1)).bind fun r2 =>
 (bif (!(decide ((r2 : Int) = (0 : Int)))) then bif (!(decide ((12 : Int) < r2))) then bif (decide ((Go.IntKind.wrap .i64 ((Go.IntKind.wrap .i64 (a2 + (1 : Int))) + r2)) < (((List.length a1) : Nat) : Int))) then ((Go.Lf.idx a1 (Go.IntKind.wrap .i64 ((Go.IntKind.wrap .i64 (a2 + (1 : Int))) + r2)))).bind fun r3 =>
   ((Go.Fn.mark_blanked (((UInt8.toNat r3) : Nat) : Int))).bind fun r4 =>
   bif (!r4) then ((Go.Lf.idx a1 (Go.IntKind.wrap .i64 ((Go.IntKind.wrap .i64 (a2 + (1 : Int))) + r2)))).bind fun r5 =>
   bif (decide (((((UInt8.toNat r5) : Nat) : Int) : Int) ≠ (124 : Int))) then ((Go.Lf.idx a1 (Go.IntKind.wrap .i64 ((Go.IntKind.wrap .i64 (a2 + (1 : Int))) + r2)))).bind fun r6 =>
   some ((decide (((((UInt8.toNat r6) : Nat) : Int) : Int) ≠ (125 : Int))), a0)
   else some (false, a0)
   else some (false, a0)
   else some (false, a0)
   else some (true, a0)
   else some (true, a0)).bind fun r7 =>
 bif r7.1 then ((Go.Fn.mark_wrong (43 : Int) r7.2.2.2.2.2.2.2.1 (Go.IntKind.wrap .i64 (a2 + (1 : Int))) ([] : List (UInt8)))).bind fun r8 =>
 some ((0 : Int), (r8, r7.2))
 else ((Go.Lf.sub a1 (Go.IntKind.wrap .i64 (a2 + (1 : Int))) (Go.IntKind.wrap .i64 ((Go.IntKind.wrap .i64 (a2 + (1 : Int))) + r2)))).bind fun r9 =>
 bif (decide ((16 : Int) ≤ (((List.length r7.2.2.1) : Nat) : Int))) then ((Go.Fn.mark_wrong (46 : Int) r7.2.2.2.2.2.2.2.1 (Go.IntKind.wrap .i64 (a2 + (1 : Int))) r9)).bind fun r10 =>
 some ((0 : Int), (r10, r7.2))
 else ((Go.Fn.mark_lexer__token r7.2 (3 : Int) r9 (Go.IntKind.wrap .i64 (a2 + (1 : Int))))).bind fun r11 =>
 ((Go.Lf.app (32 : Nat) r11.2.1 ((r9, (r11.2.2.2.2.2.2.1, ((Go.IntKind.wrap .i64 (a2 + (1 : Int))), ()))) :: ([] : List ((List (UInt8)) × ((Int) × ((Int) × (Unit)))))))).bind fun r12 =>
 some ((Go.IntKind.wrap .i64 ((1 : Int) + r2)), ((none : Option ((Int) × (((Int) × ((Int) × ((Int) × ((Int) × ((List (UInt8)) × ((List ((List (UInt8)) × ((Int) × (Unit)))) × (Unit))))))) × (Unit)))), (r11.1, (r12, (r11.2.2.1, (r11.2.2.2.1, (r11.2.2.2.2.1, ((1 : Int), r11.2.2.2.2.2.2))))))))
theorem mark_lexer__brace_eq (a0 : (List ((Int) × ((List (UInt8)) × ((List (UInt8)) × ((Int) × ((Int) × (Unit))))))) × ((List ((List (UInt8)) × ((Int) × ((Int) × (Unit))))) × ((Int) × (((Int) × ((List (UInt8)) × ((List (UInt8)) × ((Int) × ((Int) × (Unit)))))) × (((Int) × ((Int) × (Unit))) × ((Int) × ((Int) × (Unit)))))))) (a1 : List (UInt8)) (a2 : Int) : Go.Lf.fnE mark_lexer__braceCtx mark_lexer__braceCode mark_lexer__braceAnn [.obj 43 (.st (.pr (.rw 40 (.st (.pr (.int .i64) (.pr .str (.pr .str (.pr (.int .i64) (.pr (.int .i64) .unit))))))) (.pr (.mr 66 (.st (.pr .str (.pr (.int .i64) (.pr (.int .i64) .unit))))) (.pr (.int .i64) (.pr (.st (.pr (.int .i64) (.pr .str (.pr .str (.pr (.int .i64) (.pr (.int .i64) .unit)))))) (.pr (.st (.pr (.int .i64) (.pr (.int .i64) .unit))) (.pr (.int .i64) (.pr (.int .i64) .unit)))))))) (.st (.pr (.rw 40 (.st (.pr (.int .i64) (.pr .str (.pr .str (.pr (.int .i64) (.pr (.int .i64) .unit))))))) (.pr (.mr 66 (.st (.pr .str (.pr (.int .i64) (.pr (.int .i64) .unit))))) (.pr (.int .i64) (.pr (.st (.pr (.int .i64) (.pr .str (.pr .str (.pr (.int .i64) (.pr (.int .i64) .unit)))))) (.pr (.st (.pr (.int .i64) (.pr (.int .i64) .unit))) (.pr (.int .i64) (.pr (.int .i64) .unit)))))))) [], .val .str, .val (.int .i64)] [(.int .i64), (.eb 80 (.st (.pr (.int .i64) (.pr (.st (.pr (.int .i64) (.pr (.int .i64) (.pr (.int .i64) (.pr (.int .i64) (.pr .str (.pr (.sl (.st (.pr .str (.pr (.int .i64) .unit)))) .unit))))))) .unit))))] [.tmp 6, .tmp 7] (a0, a1, a2) = mark_lexer__brace a0 a1 a2 := by kernel_rfl
noncomputable def mark_lexer__braceEnt : Nat × Go.Lf.Entry := (81, ⟨[.obj 43 (.st (.pr (.rw 40 (.st (.pr (.int .i64) (.pr .str (.pr .str (.pr (.int .i64) (.pr (.int .i64) .unit))))))) (.pr (.mr 66 (.st (.pr .str (.pr (.int .i64) (.pr (.int .i64) .unit))))) (.pr (.int .i64) (.pr (.st (.pr (.int .i64) (.pr .str (.pr .str (.pr (.int .i64) (.pr (.int .i64) .unit)))))) (.pr (.st (.pr (.int .i64) (.pr (.int .i64) .unit))) (.pr (.int .i64) (.pr (.int .i64) .unit)))))))) (.st (.pr (.rw 40 (.st (.pr (.int .i64) (.pr .str (.pr .str (.pr (.int .i64) (.pr (.int .i64) .unit))))))) (.pr (.mr 66 (.st (.pr .str (.pr (.int .i64) (.pr (.int .i64) .unit))))) (.pr (.int .i64) (.pr (.st (.pr (.int .i64) (.pr .str (.pr .str (.pr (.int .i64) (.pr (.int .i64) .unit)))))) (.pr (.st (.pr (.int .i64) (.pr (.int .i64) .unit))) (.pr (.int .i64) (.pr (.int .i64) .unit)))))))) [], .val .str, .val (.int .i64)], [(.int .i64), (.eb 80 (.st (.pr (.int .i64) (.pr (.st (.pr (.int .i64) (.pr (.int .i64) (.pr (.int .i64) (.pr (.int .i64) (.pr .str (.pr (.sl (.st (.pr .str (.pr (.int .i64) .unit)))) .unit))))))) .unit))))], fun z => mark_lexer__brace z.1 z.2.1 z.2.2⟩)
theorem mark_lexer__brace_ok : Go.Lf.EntryOk Go.Proofs.Tryz.prog GG 81 mark_lexer__braceEnt.2 :=
  Go.Lf.fn_ok (c := mark_lexer__braceCtx) (code := mark_lexer__braceCode) (an := mark_lexer__braceAnn) (slots := [.tmp 6, .tmp 7]) (fn := Go.Proofs.Tryz.f81) (by kernel_rfl) ⟨Tys_ok, Go.Lf.FnsOk.look (.con mark_wrong_ok (.con mark_name_ok (.con mark_blanked_ok (.con mark_lexer__token_ok .nil))))⟩ (by kernel_rfl) (by kernel_rfl) (by kernel_rfl) (by kernel_rfl) (by kernel_rfl) (Nat.le_of_ble_eq_true rfl) (by simp [Go.Lf.Ty.top]) (by simp [Go.Lf.Ty.top]) fun z r h => (mark_lexer__brace_eq z.1 z.2.1 z.2.2).trans h
noncomputable def mark_lexer__charCtx : Go.Lf.Ctx := ⟨108, Tys, [mark_wrongEnt, mark_blankedEnt, mark_lexer__waitEnt, utf8_DecodeRuneInStringEnt, mark_lexer__escapeEnt, mark_lexer__braceEnt, mark_lexer__tokenEnt, mark_lexer__settleEnt, mark_lexer__putEnt], [85, 68], [], []⟩
noncomputable def mark_lexer__charCode : Go.Code := (Go.Proofs.Tryz.f54.body).getD .skip
def mark_lexer__charAnn : Go.Lf.Ann := (.seq .no (.seq .no (.seq (.seq .no (.seq .no (.cnd .no (.seq .no (.cnd .no (.seq .no (.cnd .no (.seq .no (.cnd .no (.seq (.join (.one .nrm ⟨[8, 2, 1], [(0, 0, [], 0)], [(71, .bool)], [(0, 43, (.st (.pr (.rw 40 (.st (.pr (.int .i64) (.pr .str (.pr .str (.pr (.int .i64) (.pr (.int .i64) .unit))))))) (.pr (.mr 66 (.st (.pr .str (.pr (.int .i64) (.pr (.int .i64) .unit))))) (.pr (.int .i64) (.pr (.st (.pr (.int .i64) (.pr .str (.pr .str (.pr (.int .i64) (.pr (.int .i64) .unit)))))) (.pr (.st (.pr (.int .i64) (.pr (.int .i64) .unit))) (.pr (.int .i64) (.pr (.int .i64) .unit)))))))))]⟩) .no) .no)))))))))) (.seq .no (.seq .no (.seq (.draw 12) .no))))))
noncomputable def mark_lexer__char (a0 : (List ((Int) × ((List (UInt8)) × ((List (UInt8)) × ((Int) × ((Int) × (Unit))))))) × ((List ((List (UInt8)) × ((Int) × ((Int) × (Unit))))) × ((Int) × (((Int) × ((List (UInt8)) × ((List (UInt8)) × ((Int) × ((Int) × (Unit)))))) × (((Int) × ((Int) × (Unit))) × ((Int) × ((Int) × (Unit)))))))) (a1 : List (UInt8)) (a2 : Int) : Option ((Int) × ((Option ((Int) × (((Int) × ((Int) × ((Int) × ((Int) × ((List (UInt8)) × ((List ((List (UInt8)) × ((Int) × (Unit)))) × (Unit))))))) × (Unit)))) × ((List ((Int) × ((List (UInt8)) × ((List (UInt8)) × ((Int) × ((Int) × (Unit))))))) × ((List ((List (UInt8)) × ((Int) × ((Int) × (Unit))))) × ((Int) × (((Int) × ((List (UInt8)) × ((List (UInt8)) × ((Int) × ((Int) × (Unit)))))) × (((Int) × ((Int) × (Unit))) × ((Int) × ((Int) × (Unit)))))))))) :=
 ((Go.Lf.idx a1 a2)).bind fun r1 =>
 ((Go.Fn.mark_blanked (((UInt8.toNat r1) : Nat) : Int))).bind fun r2 =>
 bif r2 then ((Go.Fn.mark_lexer__wait a0 (Go.IntKind.wrap .i64 (a2 + (1 : Int))))).bind fun r3 =>
 some ((1 : Int), ((none : Option ((Int) × (((Int) × ((Int) × ((Int) × ((Int) × ((List (UInt8)) × ((List ((List (UInt8)) × ((Int) × (Unit)))) × (Unit))))))) × (Unit)))), r3))
 else bif (decide (((((UInt8.toNat r1) : Nat) : Int) : Int) = (92 : Int))) then ((Go.Fn.mark_lexer__escape a0 a1 a2)).bind fun r4 =>
 some (r4.1, (r4.2.1, r4.2.2))
 else bif (decide (((((UInt8.toNat r1) : Nat) : Int) : Int) = (123 : Int))) then ((Go.Fn.mark_lexer__brace a0 a1 a2)).bind fun r5 =>
 some (r5.1, (r5.2.1, r5.2.2))
 else bif (decide (((((UInt8.toNat r1) : Nat) : Int) : Int) = (125 : Int))) then bif (decide (((((List.length a0.2.1) : Nat) : Int) : Int) = (0 : Int))) then ((Go.Fn.mark_wrong (44 : Int) a0.2.2.2.2.2.2.1 (Go.IntKind.wrap .i64 (a2 + (1 : Int))) ([] : List (UInt8)))).bind fun r6 =>
 some ((0 : Int), (r6, a0))
 else ((Go.Fn.mark_lexer__token a0 (5 : Int) ([] : List (UInt8)) (Go.IntKind.wrap .i64 (a2 + (1 : Int))))).bind fun r7 =>
 ((Go.Lf.sub r7.2.1 (0 : Int) (Go.IntKind.wrap .i64 ((((List.length a0.2.1) : Nat) : Int) - (1 : Int))))).bind fun r8 =>
 some ((1 : Int), ((none : Option ((Int) × (((Int) × ((Int) × ((Int) × ((Int) × ((List (UInt8)) × ((List ((List (UInt8)) × ((Int) × (Unit)))) × (Unit))))))) × (Unit)))), (r7.1, (r8, r7.2.2))))
 else (bif (decide (((((UInt8.toNat r1) : Nat) : Int) : Int) = (124 : Int))) then some ((decide ((0 : Int) < (((List.length a0.2.1) : Nat) : Int))), a0)
   else some (false, a0)).bind fun r9 =>
 bif r9.1 then ((Go.Fn.mark_lexer__token r9.2 (4 : Int) ([] : List (UInt8)) (Go.IntKind.wrap .i64 (a2 + (1 : Int))))).bind fun r10 =>
 some ((1 : Int), ((none : Option ((Int) × (((Int) × ((Int) × ((Int) × ((Int) × ((List (UInt8)) × ((List ((List (UInt8)) × ((Int) × (Unit)))) × (Unit))))))) × (Unit)))), r10))
 else ((Go.Lf.sub a1 a2 (((List.length a1) : Nat) : Int))).bind fun r11 =>
 ((Go.Fn.utf8_DecodeRuneInString r11)).bind fun r12 =>
 ((Go.Fn.mark_lexer__settle r9.2)).bind fun r13 =>
 ((Go.Lf.sub a1 a2 (Go.IntKind.wrap .i64 (a2 + r12.2)))).bind fun r14 =>
 ((Go.Fn.mark_lexer__put r13 r14 r13.2.2.2.2.2.2.1 (Go.IntKind.wrap .i64 (a2 + (1 : Int))))).bind fun r15 =>
 some (r12.2, ((none : Option ((Int) × (((Int) × ((Int) × ((Int) × ((Int) × ((List (UInt8)) × ((List ((List (UInt8)) × ((Int) × (Unit)))) × (Unit))))))) × (Unit)))), r15))
theorem mark_lexer__char_eq (a0 : (List ((Int) × ((List (UInt8)) × ((List (UInt8)) × ((Int) × ((Int) × (Unit))))))) × ((List ((List (UInt8)) × ((Int) × ((Int) × (Unit))))) × ((Int) × (((Int) × ((List (UInt8)) × ((List (UInt8)) × ((Int) × ((Int) × (Unit)))))) × (((Int) × ((Int) × (Unit))) × ((Int) × ((Int) × (Unit)))))))) (a1 : List (UInt8)) (a2 : Int) : Go.Lf.fnE mark_lexer__charCtx mark_lexer__charCode mark_lexer__charAnn [.obj 43 (.st (.pr (.rw 40 (.st (.pr (.int .i64) (.pr .str (.pr .str (.pr (.int .i64) (.pr (.int .i64) .unit))))))) (.pr (.mr 66 (.st (.pr .str (.pr (.int .i64) (.pr (.int .i64) .unit))))) (.pr (.int .i64) (.pr (.st (.pr (.int .i64) (.pr .str (.pr .str (.pr (.int .i64) (.pr (.int .i64) .unit)))))) (.pr (.st (.pr (.int .i64) (.pr (.int .i64) .unit))) (.pr (.int .i64) (.pr (.int .i64) .unit)))))))) (.st (.pr (.rw 40 (.st (.pr (.int .i64) (.pr .str (.pr .str (.pr (.int .i64) (.pr (.int .i64) .unit))))))) (.pr (.mr 66 (.st (.pr .str (.pr (.int .i64) (.pr (.int .i64) .unit))))) (.pr (.int .i64) (.pr (.st (.pr (.int .i64) (.pr .str (.pr .str (.pr (.int .i64) (.pr (.int .i64) .unit)))))) (.pr (.st (.pr (.int .i64) (.pr (.int .i64) .unit))) (.pr (.int .i64) (.pr (.int .i64) .unit)))))))) [], .val .str, .val (.int .i64)] [(.int .i64), (.eb 80 (.st (.pr (.int .i64) (.pr (.st (.pr (.int .i64) (.pr (.int .i64) (.pr (.int .i64) (.pr (.int .i64) (.pr .str (.pr (.sl (.st (.pr .str (.pr (.int .i64) .unit)))) .unit))))))) .unit))))] [.tmp 6, .tmp 7] (a0, a1, a2) = mark_lexer__char a0 a1 a2 := by kernel_rfl
noncomputable def mark_lexer__charEnt : Nat × Go.Lf.Entry := (54, ⟨[.obj 43 (.st (.pr (.rw 40 (.st (.pr (.int .i64) (.pr .str (.pr .str (.pr (.int .i64) (.pr (.int .i64) .unit))))))) (.pr (.mr 66 (.st (.pr .str (.pr (.int .i64) (.pr (.int .i64) .unit))))) (.pr (.int .i64) (.pr (.st (.pr (.int .i64) (.pr .str (.pr .str (.pr (.int .i64) (.pr (.int .i64) .unit)))))) (.pr (.st (.pr (.int .i64) (.pr (.int .i64) .unit))) (.pr (.int .i64) (.pr (.int .i64) .unit)))))))) (.st (.pr (.rw 40 (.st (.pr (.int .i64) (.pr .str (.pr .str (.pr (.int .i64) (.pr (.int .i64) .unit))))))) (.pr (.mr 66 (.st (.pr .str (.pr (.int .i64) (.pr (.int .i64) .unit))))) (.pr (.int .i64) (.pr (.st (.pr (.int .i64) (.pr .str (.pr .str (.pr (.int .i64) (.pr (.int .i64) .unit)))))) (.pr (.st (.pr (.int .i64) (.pr (.int .i64) .unit))) (.pr (.int .i64) (.pr (.int .i64) .unit)))))))) [], .val .str, .val (.int .i64)], [(.int .i64), (.eb 80 (.st (.pr (.int .i64) (.pr (.st (.pr (.int .i64) (.pr (.int .i64) (.pr (.int .i64) (.pr (.int .i64) (.pr .str (.pr (.sl (.st (.pr .str (.pr (.int .i64) .unit)))) .unit))))))) .unit))))], fun z => mark_lexer__char z.1 z.2.1 z.2.2⟩)
theorem mark_lexer__char_ok : Go.Lf.EntryOk Go.Proofs.Tryz.prog GG 54 mark_lexer__charEnt.2 :=
  Go.Lf.fn_ok (c := mark_lexer__charCtx) (code := mark_lexer__charCode) (an := mark_lexer__charAnn) (slots := [.tmp 6, .tmp 7]) (fn := Go.Proofs.Tryz.f54) (by kernel_rfl) ⟨Tys_ok, Go.Lf.FnsOk.look (.con mark_wrong_ok (.con mark_blanked_ok (.con mark_lexer__wait_ok (.con utf8_DecodeRuneInString_ok (.con mark_lexer__escape_ok (.con mark_lexer__brace_ok (.con mark_lexer__token_ok (.con mark_lexer__settle_ok (.con mark_lexer__put_ok .nil)))))))))⟩ (by kernel_rfl) (by kernel_rfl) (by kernel_rfl) (by kernel_rfl) (by kernel_rfl) (Nat.le_of_ble_eq_true rfl) (by simp [Go.Lf.Ty.top]) (by simp [Go.Lf.Ty.top]) fun z r h => (mark_lexer__char_eq z.1 z.2.1 z.2.2).trans h
noncomputable def mark_lexer__textCtx : Go.Lf.Ctx := ⟨41, Tys, [mark_lexer__charEnt, mark_lexer__waitEnt], [23], [], []⟩
noncomputable def mark_lexer__textCode : Go.Code := (Go.Proofs.Tryz.f27.body).getD .skip
def mark_lexer__textAnn : Go.Lf.Ann := (.seq .no (.seq (.join (.one .nrm ⟨[1], [(0, 0, [], 0)], [], [(0, 43, (.st (.pr (.rw 40 (.st (.pr (.int .i64) (.pr .str (.pr .str (.pr (.int .i64) (.pr (.int .i64) .unit))))))) (.pr (.mr 66 (.st (.pr .str (.pr (.int .i64) (.pr (.int .i64) .unit))))) (.pr (.int .i64) (.pr (.st (.pr (.int .i64) (.pr .str (.pr .str (.pr (.int .i64) (.pr (.int .i64) .unit)))))) (.pr (.st (.pr (.int .i64) (.pr (.int .i64) .unit))) (.pr (.int .i64) (.pr (.int .i64) .unit)))))))))]⟩) .no) (.seq (.seq .no (.loop ⟨[1], [(0, 0, [], 0)], [(5, (.int .i64))], [(0, 43, (.st (.pr (.rw 40 (.st (.pr (.int .i64) (.pr .str (.pr .str (.pr (.int .i64) (.pr (.int .i64) .unit))))))) (.pr (.mr 66 (.st (.pr .str (.pr (.int .i64) (.pr (.int .i64) .unit))))) (.pr (.int .i64) (.pr (.st (.pr (.int .i64) (.pr .str (.pr .str (.pr (.int .i64) (.pr (.int .i64) .unit)))))) (.pr (.st (.pr (.int .i64) (.pr (.int .i64) .unit))) (.pr (.int .i64) (.pr (.int .i64) .unit)))))))))]⟩ (.more (.ext 0) ⟨[1], [(0, 0, [], 0)], [], [(0, 43, (.st (.pr (.rw 40 (.st (.pr (.int .i64) (.pr .str (.pr .str (.pr (.int .i64) (.pr (.int .i64) .unit))))))) (.pr (.mr 66 (.st (.pr .str (.pr (.int .i64) (.pr (.int .i64) .unit))))) (.pr (.int .i64) (.pr (.st (.pr (.int .i64) (.pr .str (.pr .str (.pr (.int .i64) (.pr (.int .i64) .unit)))))) (.pr (.st (.pr (.int .i64) (.pr (.int .i64) .unit))) (.pr (.int .i64) (.pr (.int .i64) .unit)))))))))]⟩ (.one .ret ⟨[], [(0, 0, [], 0)], [(4, (.eb 80 (.st (.pr (.int .i64) (.pr (.st (.pr (.int .i64) (.pr (.int .i64) (.pr (.int .i64) (.pr (.int .i64) (.pr .str (.pr (.sl (.st (.pr .str (.pr (.int .i64) .unit)))) .unit))))))) .unit)))))], [(0, 43, (.st (.pr (.rw 40 (.st (.pr (.int .i64) (.pr .str (.pr .str (.pr (.int .i64) (.pr (.int .i64) .unit))))))) (.pr (.mr 66 (.st (.pr .str (.pr (.int .i64) (.pr (.int .i64) .unit))))) (.pr (.int .i64) (.pr (.st (.pr (.int .i64) (.pr .str (.pr .str (.pr (.int .i64) (.pr (.int .i64) .unit)))))) (.pr (.st (.pr (.int .i64) (.pr (.int .i64) .unit))) (.pr (.int .i64) (.pr (.int .i64) .unit)))))))))]⟩)) .no)) .no)))
noncomputable def mark_lexer__text (a0 : (List ((Int) × ((List (UInt8)) × ((List (UInt8)) × ((Int) × ((Int) × (Unit))))))) × ((List ((List (UInt8)) × ((Int) × ((Int) × (Unit))))) × ((Int) × (((Int) × ((List (UInt8)) × ((List (UInt8)) × ((Int) × ((Int) × (Unit)))))) × (((Int) × ((Int) × (Unit))) × ((Int) × ((Int) × (Unit)))))))) (a1 : List (UInt8)) : Option ((Option ((Int) × (((Int) × ((Int) × ((Int) × ((Int) × ((List (UInt8)) × ((List ((List (UInt8)) × ((Int) × (Unit)))) × (Unit))))))) × (Unit)))) × ((List ((Int) × ((List (UInt8)) × ((List (UInt8)) × ((Int) × ((Int) × (Unit))))))) × ((List ((List (UInt8)) × ((Int) × ((Int) × (Unit))))) × ((Int) × (((Int) × ((List (UInt8)) × ((List (UInt8)) × ((Int) × ((Int) × (Unit)))))) × (((Int) × ((Int) × (Unit))) × ((Int) × ((Int) × (Unit))))))))) :=
 (bif (decide ((a0.2.2.1 : Int) = (0 : Int))) then some (a0.1, (a0.2.1, ((1 : Int), (a0.2.2.2.1, (a0.2.2.2.2.1, ((1 : Int), a0.2.2.2.2.2.2))))))
   else some a0).bind fun r1 =>
 (Go.Lf.loopC (σ := (Int) × ((List ((Int) × ((List (UInt8)) × ((List (UInt8)) × ((Int) × ((Int) × (Unit))))))) × ((List ((List (UInt8)) × ((Int) × ((Int) × (Unit))))) × ((Int) × (((Int) × ((List (UInt8)) × ((List (UInt8)) × ((Int) × ((Int) × (Unit)))))) × (((Int) × ((Int) × (Unit))) × ((Int) × ((Int) × (Unit))))))))) (κ := ((List ((Int) × ((List (UInt8)) × ((List (UInt8)) × ((Int) × ((Int) × (Unit))))))) × ((List ((List (UInt8)) × ((Int) × ((Int) × (Unit))))) × ((Int) × (((Int) × ((List (UInt8)) × ((List (UInt8)) × ((Int) × ((Int) × (Unit)))))) × (((Int) × ((Int) × (Unit))) × ((Int) × ((Int) × (Unit)))))))) ⊕ ((Option ((Int) × (((Int) × ((Int) × ((Int) × ((Int) × ((List (UInt8)) × ((List ((List (UInt8)) × ((Int) × (Unit)))) × (Unit))))))) × (Unit)))) × ((List ((Int) × ((List (UInt8)) × ((List (UInt8)) × ((Int) × ((Int) × (Unit))))))) × ((List ((List (UInt8)) × ((Int) × ((Int) × (Unit))))) × ((Int) × (((Int) × ((List (UInt8)) × ((List (UInt8)) × ((Int) × ((Int) × (Unit)))))) × (((Int) × ((Int) × (Unit))) × ((Int) × ((Int) × (Unit)))))))))) (fun z2 =>
     bif (decide (z2.1 < (((List.length a1) : Nat) : Int))) then ((Go.Fn.mark_lexer__char z2.2 a1 z2.1)).bind fun r3 =>
     bif (Option.isSome r3.2.1) then some (.inr (.inr (r3.2.1, r3.2.2)))
     else some (.inl ((Go.IntKind.wrap .i64 (z2.1 + r3.1)), r3.2.2))
     else some (.inr (.inl z2.2))) ((0 : Int), r1) : Option (((List ((Int) × ((List (UInt8)) × ((List (UInt8)) × ((Int) × ((Int) × (Unit))))))) × ((List ((List (UInt8)) × ((Int) × ((Int) × (Unit))))) × ((Int) × (((Int) × ((List (UInt8)) × ((List (UInt8)) × ((Int) × ((Int) × (Unit)))))) × (((Int) × ((Int) × (Unit))) × ((Int) × ((Int) × (Unit)))))))) ⊕ ((Option ((Int) × (((Int) × ((Int) × ((Int) × ((Int) × ((List (UInt8)) × ((List ((List (UInt8)) × ((Int) × (Unit)))) × (Unit))))))) × (Unit)))) × ((List ((Int) × ((List (UInt8)) × ((List (UInt8)) × ((Int) × ((Int) × (Unit))))))) × ((List ((List (UInt8)) × ((Int) × ((Int) × (Unit))))) × ((Int) × (((Int) × ((List (UInt8)) × ((List (UInt8)) × ((Int) × ((Int) × (Unit)))))) × (((Int) × ((Int) × (Unit))) × ((Int) × ((Int) × (Unit))))))))))).bind fun r4 =>
 Go.Lf.onSum r4 (fun a5 =>
 ((Go.Fn.mark_lexer__wait a5 (Go.IntKind.wrap .i64 ((((List.length a1) : Nat) : Int) + (1 : Int))))).bind fun r6 =>
 some ((none : Option ((Int) × (((Int) × ((Int) × ((Int) × ((Int) × ((List (UInt8)) × ((List ((List (UInt8)) × ((Int) × (Unit)))) × (Unit))))))) × (Unit)))), r6)) (fun b7 =>
 some (b7.1, b7.2))
theorem mark_lexer__text_eq (a0 : (List ((Int) × ((List (UInt8)) × ((List (UInt8)) × ((Int) × ((Int) × (Unit))))))) × ((List ((List (UInt8)) × ((Int) × ((Int) × (Unit))))) × ((Int) × (((Int) × ((List (UInt8)) × ((List (UInt8)) × ((Int) × ((Int) × (Unit)))))) × (((Int) × ((Int) × (Unit))) × ((Int) × ((Int) × (Unit)))))))) (a1 : List (UInt8)) : Go.Lf.fnE mark_lexer__textCtx mark_lexer__textCode mark_lexer__textAnn [.obj 43 (.st (.pr (.rw 40 (.st (.pr (.int .i64) (.pr .str (.pr .str (.pr (.int .i64) (.pr (.int .i64) .unit))))))) (.pr (.mr 66 (.st (.pr .str (.pr (.int .i64) (.pr (.int .i64) .unit))))) (.pr (.int .i64) (.pr (.st (.pr (.int .i64) (.pr .str (.pr .str (.pr (.int .i64) (.pr (.int .i64) .unit)))))) (.pr (.st (.pr (.int .i64) (.pr (.int .i64) .unit))) (.pr (.int .i64) (.pr (.int .i64) .unit)))))))) (.st (.pr (.rw 40 (.st (.pr (.int .i64) (.pr .str (.pr .str (.pr (.int .i64) (.pr (.int .i64) .unit))))))) (.pr (.mr 66 (.st (.pr .str (.pr (.int .i64) (.pr (.int .i64) .unit))))) (.pr (.int .i64) (.pr (.st (.pr (.int .i64) (.pr .str (.pr .str (.pr (.int .i64) (.pr (.int .i64) .unit)))))) (.pr (.st (.pr (.int .i64) (.pr (.int .i64) .unit))) (.pr (.int .i64) (.pr (.int .i64) .unit)))))))) [], .val .str] [(.eb 80 (.st (.pr (.int .i64) (.pr (.st (.pr (.int .i64) (.pr (.int .i64) (.pr (.int .i64) (.pr (.int .i64) (.pr .str (.pr (.sl (.st (.pr .str (.pr (.int .i64) .unit)))) .unit))))))) .unit))))] [.tmp 4] (a0, a1) = mark_lexer__text a0 a1 := by kernel_rfl
noncomputable def mark_lexer__textEnt : Nat × Go.Lf.Entry := (27, ⟨[.obj 43 (.st (.pr (.rw 40 (.st (.pr (.int .i64) (.pr .str (.pr .str (.pr (.int .i64) (.pr (.int .i64) .unit))))))) (.pr (.mr 66 (.st (.pr .str (.pr (.int .i64) (.pr (.int .i64) .unit))))) (.pr (.int .i64) (.pr (.st (.pr (.int .i64) (.pr .str (.pr .str (.pr (.int .i64) (.pr (.int .i64) .unit)))))) (.pr (.st (.pr (.int .i64) (.pr (.int .i64) .unit))) (.pr (.int .i64) (.pr (.int .i64) .unit)))))))) (.st (.pr (.rw 40 (.st (.pr (.int .i64) (.pr .str (.pr .str (.pr (.int .i64) (.pr (.int .i64) .unit))))))) (.pr (.mr 66 (.st (.pr .str (.pr (.int .i64) (.pr (.int .i64) .unit))))) (.pr (.int .i64) (.pr (.st (.pr (.int .i64) (.pr .str (.pr .str (.pr (.int .i64) (.pr (.int .i64) .unit)))))) (.pr (.st (.pr (.int .i64) (.pr (.int .i64) .unit))) (.pr (.int .i64) (.pr (.int .i64) .unit)))))))) [], .val .str], [(.eb 80 (.st (.pr (.int .i64) (.pr (.st (.pr (.int .i64) (.pr (.int .i64) (.pr (.int .i64) (.pr (.int .i64) (.pr .str (.pr (.sl (.st (.pr .str (.pr (.int .i64) .unit)))) .unit))))))) .unit))))], fun z => mark_lexer__text z.1 z.2⟩)
theorem mark_lexer__text_ok : Go.Lf.EntryOk Go.Proofs.Tryz.prog GG 27 mark_lexer__textEnt.2 :=
  Go.Lf.fn_ok (c := mark_lexer__textCtx) (code := mark_lexer__textCode) (an := mark_lexer__textAnn) (slots := [.tmp 4]) (fn := Go.Proofs.Tryz.f27) (by kernel_rfl) ⟨Tys_ok, Go.Lf.FnsOk.look (.con mark_lexer__char_ok (.con mark_lexer__wait_ok .nil))⟩ (by kernel_rfl) (by kernel_rfl) (by kernel_rfl) (by kernel_rfl) (by kernel_rfl) (Nat.le_of_ble_eq_true rfl) (by simp [Go.Lf.Ty.top]) (by simp [Go.Lf.Ty.top]) fun z r h => (mark_lexer__text_eq z.1 z.2).trans h
noncomputable def mark_lexer__takeCtx : Go.Lf.Ctx := ⟨49, Tys, [mark_lexer__endEnt, mark_lexer__checkEnt, strings_HasPrefixEnt, strings_TrimEnt, mark_lexer__directiveEnt, mark_lexer__textEnt], [29], [], [(29, (.rw 40 (.st (.pr (.int .i64) (.pr .str (.pr .str (.pr (.int .i64) (.pr (.int .i64) .unit))))))))]⟩
noncomputable def mark_lexer__takeCode : Go.Code := (Go.Proofs.Tryz.f12.body).getD .skip
def mark_lexer__takeAnn : Go.Lf.Ann := (.seq .no (.seq .no (.seq (.seq .no (.cnd .no (.seq .no (.cnd (.seq .no (.seq (.soup 11) .no)) .no)))) .no)))
noncomputable def mark_lexer__take (a0 : (List ((Int) × ((List (UInt8)) × ((List (UInt8)) × ((Int) × ((Int) × (Unit))))))) × ((List ((List (UInt8)) × ((Int) × ((Int) × (Unit))))) × ((Int) × (((Int) × ((List (UInt8)) × ((List (UInt8)) × ((Int) × ((Int) × (Unit)))))) × (((Int) × ((Int) × (Unit))) × ((Int) × ((Int) × (Unit)))))))) (a1 : List (UInt8)) : Option ((Option ((Int) × (((Int) × ((Int) × ((Int) × ((Int) × ((List (UInt8)) × ((List ((List (UInt8)) × ((Int) × (Unit)))) × (Unit))))))) × (Unit)))) × ((List ((Int) × ((List (UInt8)) × ((List (UInt8)) × ((Int) × ((Int) × (Unit))))))) × ((List ((List (UInt8)) × ((Int) × ((Int) × (Unit))))) × ((Int) × (((Int) × ((List (UInt8)) × ((List (UInt8)) × ((Int) × ((Int) × (Unit)))))) × (((Int) × ((Int) × (Unit))) × ((Int) × ((Int) × (Unit))))))))) :=
 ((Go.Fn.mark_lexer__check a0 a1)).bind fun r1 =>
 bif (Option.isSome r1.1) then some (r1.1, r1.2)
 else ((Go.Fn.strings_HasPrefix a1 ((35 : UInt8) :: ([] : List (UInt8))))).bind fun r2 =>
 bif r2 then some ((none : Option ((Int) × (((Int) × ((Int) × ((Int) × ((Int) × ((List (UInt8)) × ((List ((List (UInt8)) × ((Int) × (Unit)))) × (Unit))))))) × (Unit)))), r1.2)
 else ((Go.Fn.strings_Trim a1 ((32 : UInt8) :: ((9 : UInt8) :: ([] : List (UInt8)))))).bind fun r3 =>
 bif (decide ((r3 : List (UInt8)) = ([] : List (UInt8)))) then ((Go.Fn.mark_lexer__end r1.2)).bind fun r4 =>
 bif (Option.isSome r4.1) then some (r4.1, r4.2)
 else ((Go.Lf.app (56 : Nat) r4.2.1 (((2 : Int), (([] : List (UInt8)), (([] : List (UInt8)), (r4.2.2.2.2.2.2.2.1, ((1 : Int), ()))))) :: ([] : List ((Int) × ((List (UInt8)) × ((List (UInt8)) × ((Int) × ((Int) × (Unit)))))))))).bind fun r5 =>
 some ((none : Option ((Int) × (((Int) × ((Int) × ((Int) × ((Int) × ((List (UInt8)) × ((List ((List (UInt8)) × ((Int) × (Unit)))) × (Unit))))))) × (Unit)))), (r5, r4.2.2))
 else ((Go.Lf.idx a1 (0 : Int))).bind fun r6 =>
 bif (decide (((((UInt8.toNat r6) : Nat) : Int) : Int) = (46 : Int))) then ((Go.Fn.mark_lexer__directive r1.2 a1)).bind fun r7 =>
 some (r7.1, r7.2)
 else ((Go.Fn.mark_lexer__text r1.2 a1)).bind fun r8 =>
 some (r8.1, r8.2)
theorem mark_lexer__take_eq (a0 : (List ((Int) × ((List (UInt8)) × ((List (UInt8)) × ((Int) × ((Int) × (Unit))))))) × ((List ((List (UInt8)) × ((Int) × ((Int) × (Unit))))) × ((Int) × (((Int) × ((List (UInt8)) × ((List (UInt8)) × ((Int) × ((Int) × (Unit)))))) × (((Int) × ((Int) × (Unit))) × ((Int) × ((Int) × (Unit)))))))) (a1 : List (UInt8)) : Go.Lf.fnE mark_lexer__takeCtx mark_lexer__takeCode mark_lexer__takeAnn [.obj 43 (.st (.pr (.rw 40 (.st (.pr (.int .i64) (.pr .str (.pr .str (.pr (.int .i64) (.pr (.int .i64) .unit))))))) (.pr (.mr 66 (.st (.pr .str (.pr (.int .i64) (.pr (.int .i64) .unit))))) (.pr (.int .i64) (.pr (.st (.pr (.int .i64) (.pr .str (.pr .str (.pr (.int .i64) (.pr (.int .i64) .unit)))))) (.pr (.st (.pr (.int .i64) (.pr (.int .i64) .unit))) (.pr (.int .i64) (.pr (.int .i64) .unit)))))))) (.st (.pr (.rw 40 (.st (.pr (.int .i64) (.pr .str (.pr .str (.pr (.int .i64) (.pr (.int .i64) .unit))))))) (.pr (.mr 66 (.st (.pr .str (.pr (.int .i64) (.pr (.int .i64) .unit))))) (.pr (.int .i64) (.pr (.st (.pr (.int .i64) (.pr .str (.pr .str (.pr (.int .i64) (.pr (.int .i64) .unit)))))) (.pr (.st (.pr (.int .i64) (.pr (.int .i64) .unit))) (.pr (.int .i64) (.pr (.int .i64) .unit)))))))) [], .val .str] [(.eb 80 (.st (.pr (.int .i64) (.pr (.st (.pr (.int .i64) (.pr (.int .i64) (.pr (.int .i64) (.pr (.int .i64) (.pr .str (.pr (.sl (.st (.pr .str (.pr (.int .i64) .unit)))) .unit))))))) .unit))))] [.tmp 4] (a0, a1) = mark_lexer__take a0 a1 := by kernel_rfl
noncomputable def mark_lexer__takeEnt : Nat × Go.Lf.Entry := (12, ⟨[.obj 43 (.st (.pr (.rw 40 (.st (.pr (.int .i64) (.pr .str (.pr .str (.pr (.int .i64) (.pr (.int .i64) .unit))))))) (.pr (.mr 66 (.st (.pr .str (.pr (.int .i64) (.pr (.int .i64) .unit))))) (.pr (.int .i64) (.pr (.st (.pr (.int .i64) (.pr .str (.pr .str (.pr (.int .i64) (.pr (.int .i64) .unit)))))) (.pr (.st (.pr (.int .i64) (.pr (.int .i64) .unit))) (.pr (.int .i64) (.pr (.int .i64) .unit)))))))) (.st (.pr (.rw 40 (.st (.pr (.int .i64) (.pr .str (.pr .str (.pr (.int .i64) (.pr (.int .i64) .unit))))))) (.pr (.mr 66 (.st (.pr .str (.pr (.int .i64) (.pr (.int .i64) .unit))))) (.pr (.int .i64) (.pr (.st (.pr (.int .i64) (.pr .str (.pr .str (.pr (.int .i64) (.pr (.int .i64) .unit)))))) (.pr (.st (.pr (.int .i64) (.pr (.int .i64) .unit))) (.pr (.int .i64) (.pr (.int .i64) .unit)))))))) [], .val .str], [(.eb 80 (.st (.pr (.int .i64) (.pr (.st (.pr (.int .i64) (.pr (.int .i64) (.pr (.int .i64) (.pr (.int .i64) (.pr .str (.pr (.sl (.st (.pr .str (.pr (.int .i64) .unit)))) .unit))))))) .unit))))], fun z => mark_lexer__take z.1 z.2⟩)
theorem mark_lexer__take_ok : Go.Lf.EntryOk Go.Proofs.Tryz.prog GG 12 mark_lexer__takeEnt.2 :=
  Go.Lf.fn_ok (c := mark_lexer__takeCtx) (code := mark_lexer__takeCode) (an := mark_lexer__takeAnn) (slots := [.tmp 4]) (fn := Go.Proofs.Tryz.f12) (by kernel_rfl) ⟨Tys_ok, Go.Lf.FnsOk.look (.con mark_lexer__end_ok (.con mark_lexer__check_ok (.con strings_HasPrefix_ok (.con strings_Trim_ok (.con mark_lexer__directive_ok (.con mark_lexer__text_ok .nil))))))⟩ (by kernel_rfl) (by kernel_rfl) (by kernel_rfl) (by kernel_rfl) (by kernel_rfl) (Nat.le_of_ble_eq_true rfl) (by simp [Go.Lf.Ty.top]) (by simp [Go.Lf.Ty.top]) fun z r h => (mark_lexer__take_eq z.1 z.2).trans h
noncomputable def mark_LexCtx : Go.Lf.Ctx := ⟨55, Tys, [mark_wrongEnt, strings_CutEnt, strings_TrimSuffixEnt, mark_lexer__takeEnt, mark_lexer__endEnt], [2, 54], [], [(2, (.rw 40 (.st (.pr (.int .i64) (.pr .str (.pr .str (.pr (.int .i64) (.pr (.int .i64) .unit)))))))), (14, (.st (.pr (.rw 40 (.st (.pr (.int .i64) (.pr .str (.pr .str (.pr (.int .i64) (.pr (.int .i64) .unit))))))) (.pr (.mr 66 (.st (.pr .str (.pr (.int .i64) (.pr (.int .i64) .unit))))) (.pr (.int .i64) (.pr (.st (.pr (.int .i64) (.pr .str (.pr .str (.pr (.int .i64) (.pr (.int .i64) .unit)))))) (.pr (.st (.pr (.int .i64) (.pr (.int .i64) .unit))) (.pr (.int .i64) (.pr (.int .i64) .unit))))))))), (54, (.rw 40 (.st (.pr (.int .i64) (.pr .str (.pr .str (.pr (.int .i64) (.pr (.int .i64) .unit))))))))]⟩
noncomputable def mark_LexCode : Go.Code := (Go.Proofs.Tryz.f4.body).getD .skip
def mark_LexAnn : Go.Lf.Ann := (.seq .no (.seq .no (.seq .no (.seq (.loop ⟨[], [(4, 15, [], 0)], [(0, .str)], [(15, 43, (.st (.pr (.rw 40 (.st (.pr (.int .i64) (.pr .str (.pr .str (.pr (.int .i64) (.pr (.int .i64) .unit))))))) (.pr (.mr 66 (.st (.pr .str (.pr (.int .i64) (.pr (.int .i64) .unit))))) (.pr (.int .i64) (.pr (.st (.pr (.int .i64) (.pr .str (.pr .str (.pr (.int .i64) (.pr (.int .i64) .unit)))))) (.pr (.st (.pr (.int .i64) (.pr (.int .i64) .unit))) (.pr (.int .i64) (.pr (.int .i64) .unit)))))))))]⟩ (.more (.ext 0) ⟨[], [(4, 15, [], 0)], [], [(15, 43, (.st (.pr (.rw 40 (.st (.pr (.int .i64) (.pr .str (.pr .str (.pr (.int .i64) (.pr (.int .i64) .unit))))))) (.pr (.mr 66 (.st (.pr .str (.pr (.int .i64) (.pr (.int .i64) .unit))))) (.pr (.int .i64) (.pr (.st (.pr (.int .i64) (.pr .str (.pr .str (.pr (.int .i64) (.pr (.int .i64) .unit)))))) (.pr (.st (.pr (.int .i64) (.pr (.int .i64) .unit))) (.pr (.int .i64) (.pr (.int .i64) .unit)))))))))]⟩ (.one .ret ⟨[], [], [(2, (.rw 40 (.st (.pr (.int .i64) (.pr .str (.pr .str (.pr (.int .i64) (.pr (.int .i64) .unit)))))))), (3, (.eb 80 (.st (.pr (.int .i64) (.pr (.st (.pr (.int .i64) (.pr (.int .i64) (.pr (.int .i64) (.pr (.int .i64) (.pr .str (.pr (.sl (.st (.pr .str (.pr (.int .i64) .unit)))) .unit))))))) .unit)))))], []⟩)) (.seq .no (.seq .no (.seq .no (.seq .no (.seq (.join (.one .nrm ⟨[0], [(4, 15, [], 0)], [(5, .str)], [(15, 43, (.st (.pr (.rw 40 (.st (.pr (.int .i64) (.pr .str (.pr .str (.pr (.int .i64) (.pr (.int .i64) .unit))))))) (.pr (.mr 66 (.st (.pr .str (.pr (.int .i64) (.pr (.int .i64) .unit))))) (.pr (.int .i64) (.pr (.st (.pr (.int .i64) (.pr .str (.pr .str (.pr (.int .i64) (.pr (.int .i64) .unit)))))) (.pr (.st (.pr (.int .i64) (.pr (.int .i64) .unit))) (.pr (.int .i64) (.pr (.int .i64) .unit)))))))))]⟩) (.seq (.join (.one .nrm ⟨[0, 5], [(4, 15, [], 0)], [(37, .bool)], [(15, 43, (.st (.pr (.rw 40 (.st (.pr (.int .i64) (.pr .str (.pr .str (.pr (.int .i64) (.pr (.int .i64) .unit))))))) (.pr (.mr 66 (.st (.pr .str (.pr (.int .i64) (.pr (.int .i64) .unit))))) (.pr (.int .i64) (.pr (.st (.pr (.int .i64) (.pr .str (.pr .str (.pr (.int .i64) (.pr (.int .i64) .unit)))))) (.pr (.st (.pr (.int .i64) (.pr (.int .i64) .unit))) (.pr (.int .i64) (.pr (.int .i64) .unit)))))))))]⟩) .no) .no)) .no)))))) .no))))
noncomputable def mark_Lex (a0 : List (UInt8)) : Option ((List ((Int) × ((List (UInt8)) × ((List (UInt8)) × ((Int) × ((Int) × (Unit))))))) × (Option ((Int) × (((Int) × ((Int) × ((Int) × ((Int) × ((List (UInt8)) × ((List ((List (UInt8)) × ((Int) × (Unit)))) × (Unit))))))) × (Unit))))) :=
 bif (decide ((65536 : Int) < (((List.length a0) : Nat) : Int))) then ((Go.Fn.mark_wrong (2 : Int) (0 : Int) (0 : Int) ([] : List (UInt8)))).bind fun r1 =>
 some (([] : List ((Int) × ((List (UInt8)) × ((List (UInt8)) × ((Int) × ((Int) × (Unit))))))), r1)
 else (Go.Lf.loopC (σ := (List (UInt8)) × ((List ((Int) × ((List (UInt8)) × ((List (UInt8)) × ((Int) × ((Int) × (Unit))))))) × ((List ((List (UInt8)) × ((Int) × ((Int) × (Unit))))) × ((Int) × (((Int) × ((List (UInt8)) × ((List (UInt8)) × ((Int) × ((Int) × (Unit)))))) × (((Int) × ((Int) × (Unit))) × ((Int) × ((Int) × (Unit))))))))) (κ := ((List ((Int) × ((List (UInt8)) × ((List (UInt8)) × ((Int) × ((Int) × (Unit))))))) × ((List ((List (UInt8)) × ((Int) × ((Int) × (Unit))))) × ((Int) × (((Int) × ((List (UInt8)) × ((List (UInt8)) × ((Int) × ((Int) × (Unit)))))) × (((Int) × ((Int) × (Unit))) × ((Int) × ((Int) × (Unit)))))))) ⊕ ((List ((Int) × ((List (UInt8)) × ((List (UInt8)) × ((Int) × ((Int) × (Unit))))))) × (Option ((Int) × (((Int) × ((Int) × ((Int) × ((Int) × ((List (UInt8)) × ((List ((List (UInt8)) × ((Int) × (Unit)))) × (Unit))))))) × (Unit)))))) (fun z2 =>
     bif (decide ((0 : Int) < (((List.length z2.1) : Nat) : Int))) then ((Go.Fn.strings_Cut z2.1 ((10 : UInt8) :: ([] : List (UInt8))))).bind fun r3 =>
     ((bif (!r3.2.2) then some ((decide ((r3.2.1 : List (UInt8)) = ([] : List (UInt8)))), (z2.2.1, (z2.2.2.1, (z2.2.2.2.1, (z2.2.2.2.2.1, (z2.2.2.2.2.2.1, (z2.2.2.2.2.2.2.1, ((Go.IntKind.wrap .i64 (z2.2.2.2.2.2.2.2.1 + (1 : Int))), z2.2.2.2.2.2.2.2.2))))))))
         else some (true, (z2.2.1, (z2.2.2.1, (z2.2.2.2.1, (z2.2.2.2.2.1, (z2.2.2.2.2.2.1, (z2.2.2.2.2.2.2.1, ((Go.IntKind.wrap .i64 (z2.2.2.2.2.2.2.2.1 + (1 : Int))), z2.2.2.2.2.2.2.2.2))))))))).bind fun r4 =>
       bif r4.1 then ((Go.Fn.strings_TrimSuffix r3.1 ((13 : UInt8) :: ([] : List (UInt8))))).bind fun r5 =>
       some (r5, r4.2)
       else some (r3.1, r4.2)).bind fun r6 =>
     ((Go.Fn.mark_lexer__take r6.2 r6.1)).bind fun r7 =>
     bif (Option.isSome r7.1) then some (.inr (.inr (([] : List ((Int) × ((List (UInt8)) × ((List (UInt8)) × ((Int) × ((Int) × (Unit))))))), r7.1)))
     else some (.inl (r3.2.1, r7.2))
     else some (.inr (.inl z2.2))) (a0, (([] : List ((Int) × ((List (UInt8)) × ((List (UInt8)) × ((Int) × ((Int) × (Unit))))))), (([] : List ((List (UInt8)) × ((Int) × ((Int) × (Unit))))), ((0 : Int), (((0 : Int), (([] : List (UInt8)), (([] : List (UInt8)), ((0 : Int), ((0 : Int), ()))))), (((0 : Int), ((0 : Int), ())), ((0 : Int), ((0 : Int), ())))))))) : Option (((List ((Int) × ((List (UInt8)) × ((List (UInt8)) × ((Int) × ((Int) × (Unit))))))) × ((List ((List (UInt8)) × ((Int) × ((Int) × (Unit))))) × ((Int) × (((Int) × ((List (UInt8)) × ((List (UInt8)) × ((Int) × ((Int) × (Unit)))))) × (((Int) × ((Int) × (Unit))) × ((Int) × ((Int) × (Unit)))))))) ⊕ ((List ((Int) × ((List (UInt8)) × ((List (UInt8)) × ((Int) × ((Int) × (Unit))))))) × (Option ((Int) × (((Int) × ((Int) × ((Int) × ((Int) × ((List (UInt8)) × ((List ((List (UInt8)) × ((Int) × (Unit)))) × (Unit))))))) × (Unit))))))).bind fun r8 =>
 Go.Lf.onSum r8 (fun a9 =>
 ((Go.Fn.mark_lexer__end a9)).bind fun r10 =>
 bif (Option.isSome r10.1) then some (([] : List ((Int) × ((List (UInt8)) × ((List (UInt8)) × ((Int) × ((Int) × (Unit))))))), r10.1)
 else some (r10.2.1, (none : Option ((Int) × (((Int) × ((Int) × ((Int) × ((Int) × ((List (UInt8)) × ((List ((List (UInt8)) × ((Int) × (Unit)))) × (Unit))))))) × (Unit)))))) (fun b11 =>
 some (b11.1, b11.2))
theorem mark_Lex_eq (a0 : List (UInt8)) : Go.Lf.fnE mark_LexCtx mark_LexCode mark_LexAnn [.val .str] [(.rw 40 (.st (.pr (.int .i64) (.pr .str (.pr .str (.pr (.int .i64) (.pr (.int .i64) .unit))))))), (.eb 80 (.st (.pr (.int .i64) (.pr (.st (.pr (.int .i64) (.pr (.int .i64) (.pr (.int .i64) (.pr (.int .i64) (.pr .str (.pr (.sl (.st (.pr .str (.pr (.int .i64) .unit)))) .unit))))))) .unit))))] [.tmp 2, .tmp 3] (a0) = mark_Lex a0 := by kernel_rfl
noncomputable def mark_LexEnt : Nat × Go.Lf.Entry := (4, ⟨[.val .str], [(.rw 40 (.st (.pr (.int .i64) (.pr .str (.pr .str (.pr (.int .i64) (.pr (.int .i64) .unit))))))), (.eb 80 (.st (.pr (.int .i64) (.pr (.st (.pr (.int .i64) (.pr (.int .i64) (.pr (.int .i64) (.pr (.int .i64) (.pr .str (.pr (.sl (.st (.pr .str (.pr (.int .i64) .unit)))) .unit))))))) .unit))))], fun z => mark_Lex z⟩)
theorem mark_Lex_ok : Go.Lf.EntryOk Go.Proofs.Tryz.prog GG 4 mark_LexEnt.2 :=
  Go.Lf.fn_ok (c := mark_LexCtx) (code := mark_LexCode) (an := mark_LexAnn) (slots := [.tmp 2, .tmp 3]) (fn := Go.Proofs.Tryz.f4) (by kernel_rfl) ⟨Tys_ok, Go.Lf.FnsOk.look (.con mark_wrong_ok (.con strings_Cut_ok (.con strings_TrimSuffix_ok (.con mark_lexer__take_ok (.con mark_lexer__end_ok .nil)))))⟩ (by kernel_rfl) (by kernel_rfl) (by kernel_rfl) (by kernel_rfl) (by kernel_rfl) (Nat.le_of_ble_eq_true rfl) (by simp [Go.Lf.Ty.top]) (by simp [Go.Lf.Ty.top]) fun z r h => (mark_Lex_eq z).trans h
noncomputable def folioref04_LinesCtx : Go.Lf.Ctx := ⟨56, Tys, [], [2, 3, 46, 55], [], [(2, (.rw 9 .str)), (3, (.rw 9 .str)), (46, (.rw 9 .str)), (55, (.rw 9 .str))]⟩
noncomputable def folioref04_LinesCode : Go.Code := (Go.Proofs.Tryz.f14.body).getD .skip
def folioref04_LinesAnn : Go.Lf.Ann := (.seq .no (.seq .no (.seq .no (.seq (.seq .no (.loop ⟨[0], [], [(5, (.int .i64)), (3, (.rw 9 .str)), (4, (.int .i64))], []⟩ (.one (.ext 0) ⟨[], [], [(3, (.rw 9 .str))], []⟩) (.seq .no (.seq (.join (.more .nrm ⟨[0, 5], [], [(3, (.rw 9 .str)), (4, (.int .i64))], []⟩ (.one (.ext 0) ⟨[], [], [(3, (.rw 9 .str))], []⟩)) (.seq (.seq (.join (.one .nrm ⟨[4, 0, 5], [], [(22, .bool), (3, (.rw 9 .str))], []⟩) .no) .no) (.seq (.seq (.join (.one .nrm ⟨[0, 5, 4], [], [(32, .bool), (3, (.rw 9 .str))], []⟩) .no) .no) (.seq .no (.seq (.join (.one .nrm ⟨[0, 5, 4], [], [(6, (.int .i64)), (3, (.rw 9 .str))], []⟩) (.seq (.join (.one .nrm ⟨[0, 5, 4, 6], [], [(43, .bool), (3, (.rw 9 .str))], []⟩) .no) .no)) .no))))) .no)))) .no))))
noncomputable def folioref04_Lines (a0 : List (UInt8)) : Option (List (List (UInt8))) :=
 (Go.Lf.loopC (σ := (Int) × ((List (List (UInt8))) × (Int))) (κ := List (List (UInt8))) (fun z1 =>
     bif (decide (z1.1 ≤ (((List.length a0) : Nat) : Int))) then ((bif (decide (z1.1 < (((List.length a0) : Nat) : Int))) then ((Go.Lf.idx a0 z1.1)).bind fun r2 =>
         some ((decide (((((UInt8.toNat r2) : Nat) : Int) : Int) ≠ (10 : Int))), z1.2.1)
         else some (false, z1.2.1)).bind fun r3 =>
       bif r3.1 then some (.inl (r3.2, z1.2.2))
       else (bif (decide ((z1.1 : Int) = (((List.length a0) : Nat) : Int))) then some ((decide ((z1.2.2 : Int) = (((List.length a0) : Nat) : Int))), r3.2)
         else some (false, r3.2)).bind fun r4 =>
       bif r4.1 then some (.inr r4.2)
       else ((bif (decide (z1.2.2 < z1.1)) then ((Go.Lf.idx a0 (Go.IntKind.wrap .i64 (z1.1 - (1 : Int))))).bind fun r5 =>
           some ((decide (((((UInt8.toNat r5) : Nat) : Int) : Int) = (13 : Int))), r4.2)
           else some (false, r4.2)).bind fun r6 =>
         bif r6.1 then some ((Go.IntKind.wrap .i64 (z1.1 - (1 : Int))), r6.2)
         else some (z1.1, r6.2)).bind fun r7 =>
       ((Go.Lf.sub a0 z1.2.2 r7.1)).bind fun r8 =>
       ((Go.Lf.app (16 : Nat) r7.2 (r8 :: ([] : List (List (UInt8)))))).bind fun r9 =>
       some (.inl (r9, (Go.IntKind.wrap .i64 (z1.1 + (1 : Int))))) : Option (((List (List (UInt8))) × (Int)) ⊕ (List (List (UInt8))))).bind fun r10 =>
     Go.Lf.onSum r10 (fun a11 =>
     some (.inl ((Go.IntKind.wrap .i64 (z1.1 + (1 : Int))), (a11.1, a11.2)))) (fun b12 =>
     some (.inr b12))
     else some (.inr z1.2.1)) ((0 : Int), (([] : List (List (UInt8))), (0 : Int))) : Option (List (List (UInt8)))).bind fun r13 =>
 some r13
theorem folioref04_Lines_eq (a0 : List (UInt8)) : Go.Lf.fnE folioref04_LinesCtx folioref04_LinesCode folioref04_LinesAnn [.val .str] [(.rw 9 .str)] [.tmp 2] (a0) = folioref04_Lines a0 := by kernel_rfl
noncomputable def folioref04_LinesEnt : Nat × Go.Lf.Entry := (14, ⟨[.val .str], [(.rw 9 .str)], fun z => folioref04_Lines z⟩)
theorem folioref04_Lines_ok : Go.Lf.EntryOk Go.Proofs.Tryz.prog GG 14 folioref04_LinesEnt.2 :=
  Go.Lf.fn_ok (c := folioref04_LinesCtx) (code := folioref04_LinesCode) (an := folioref04_LinesAnn) (slots := [.tmp 2]) (fn := Go.Proofs.Tryz.f14) (by kernel_rfl) ⟨Tys_ok, Go.Lf.FnsOk.look .nil⟩ (by kernel_rfl) (by kernel_rfl) (by kernel_rfl) (by kernel_rfl) (by kernel_rfl) (Nat.le_of_ble_eq_true rfl) (by simp [Go.Lf.Ty.top]) (by simp [Go.Lf.Ty.top]) fun z r h => (folioref04_Lines_eq z).trans h
noncomputable def folioref04_lexer__failCtx : Go.Lf.Ctx := ⟨24, Tys, [], [], [], []⟩
noncomputable def folioref04_lexer__failCode : Go.Code := (Go.Proofs.Tryz.f29.body).getD .skip
def folioref04_lexer__failAnn : Go.Lf.Ann := .no
noncomputable def folioref04_lexer__fail (a0 : (List ((Int) × ((List (UInt8)) × ((List (UInt8)) × ((Int) × ((Int) × (Unit))))))) × (((Int) × ((Int) × ((Int) × ((List (UInt8)) × (Unit))))) × ((Bool) × ((List ((Int) × ((List (UInt8)) × ((List (UInt8)) × ((Int) × ((Int) × (Unit))))))) × (((Int) × ((List (UInt8)) × ((List (UInt8)) × ((Int) × ((Int) × (Unit)))))) × ((List (Int)) × (((Int) × ((List (UInt8)) × ((List (UInt8)) × ((Int) × ((Int) × (Unit)))))) × ((Bool) × (Unit))))))))) (a1 : Int) (a2 : Int) (a3 : Int) (a4 : List (UInt8)) : Option ((List ((Int) × ((List (UInt8)) × ((List (UInt8)) × ((Int) × ((Int) × (Unit))))))) × (((Int) × ((Int) × ((Int) × ((List (UInt8)) × (Unit))))) × ((Bool) × ((List ((Int) × ((List (UInt8)) × ((List (UInt8)) × ((Int) × ((Int) × (Unit))))))) × (((Int) × ((List (UInt8)) × ((List (UInt8)) × ((Int) × ((Int) × (Unit)))))) × ((List (Int)) × (((Int) × ((List (UInt8)) × ((List (UInt8)) × ((Int) × ((Int) × (Unit)))))) × ((Bool) × (Unit))))))))) :=
 bif (decide ((a0.2.1.1 : Int) = (0 : Int))) then some (a0.1, ((a1, (a2, (a3, (a4, ())))), a0.2.2))
 else some a0
theorem folioref04_lexer__fail_eq (a0 : (List ((Int) × ((List (UInt8)) × ((List (UInt8)) × ((Int) × ((Int) × (Unit))))))) × (((Int) × ((Int) × ((Int) × ((List (UInt8)) × (Unit))))) × ((Bool) × ((List ((Int) × ((List (UInt8)) × ((List (UInt8)) × ((Int) × ((Int) × (Unit))))))) × (((Int) × ((List (UInt8)) × ((List (UInt8)) × ((Int) × ((Int) × (Unit)))))) × ((List (Int)) × (((Int) × ((List (UInt8)) × ((List (UInt8)) × ((Int) × ((Int) × (Unit)))))) × ((Bool) × (Unit))))))))) (a1 : Int) (a2 : Int) (a3 : Int) (a4 : List (UInt8)) : Go.Lf.fnE folioref04_lexer__failCtx folioref04_lexer__failCode folioref04_lexer__failAnn [.obj 52 (.st (.pr (.rw 40 (.st (.pr (.int .i64) (.pr .str (.pr .str (.pr (.int .i64) (.pr (.int .i64) .unit))))))) (.pr (.st (.pr (.int .i64) (.pr (.int .i64) (.pr (.int .i64) (.pr .str .unit))))) (.pr .bool (.pr (.mr 40 (.st (.pr (.int .i64) (.pr .str (.pr .str (.pr (.int .i64) (.pr (.int .i64) .unit))))))) (.pr (.st (.pr (.int .i64) (.pr .str (.pr .str (.pr (.int .i64) (.pr (.int .i64) .unit)))))) (.pr (.rw 5 (.int .u8)) (.pr (.st (.pr (.int .i64) (.pr .str (.pr .str (.pr (.int .i64) (.pr (.int .i64) .unit)))))) (.pr .bool .unit))))))))) (.st (.pr (.rw 40 (.st (.pr (.int .i64) (.pr .str (.pr .str (.pr (.int .i64) (.pr (.int .i64) .unit))))))) (.pr (.st (.pr (.int .i64) (.pr (.int .i64) (.pr (.int .i64) (.pr .str .unit))))) (.pr .bool (.pr (.mr 40 (.st (.pr (.int .i64) (.pr .str (.pr .str (.pr (.int .i64) (.pr (.int .i64) .unit))))))) (.pr (.st (.pr (.int .i64) (.pr .str (.pr .str (.pr (.int .i64) (.pr (.int .i64) .unit)))))) (.pr (.rw 5 (.int .u8)) (.pr (.st (.pr (.int .i64) (.pr .str (.pr .str (.pr (.int .i64) (.pr (.int .i64) .unit)))))) (.pr .bool .unit))))))))) [], .val (.int .i64), .val (.int .i64), .val (.int .i64), .val .str] [] [] (a0, a1, a2, a3, a4) = folioref04_lexer__fail a0 a1 a2 a3 a4 := by kernel_rfl
noncomputable def folioref04_lexer__failEnt : Nat × Go.Lf.Entry := (29, ⟨[.obj 52 (.st (.pr (.rw 40 (.st (.pr (.int .i64) (.pr .str (.pr .str (.pr (.int .i64) (.pr (.int .i64) .unit))))))) (.pr (.st (.pr (.int .i64) (.pr (.int .i64) (.pr (.int .i64) (.pr .str .unit))))) (.pr .bool (.pr (.mr 40 (.st (.pr (.int .i64) (.pr .str (.pr .str (.pr (.int .i64) (.pr (.int .i64) .unit))))))) (.pr (.st (.pr (.int .i64) (.pr .str (.pr .str (.pr (.int .i64) (.pr (.int .i64) .unit)))))) (.pr (.rw 5 (.int .u8)) (.pr (.st (.pr (.int .i64) (.pr .str (.pr .str (.pr (.int .i64) (.pr (.int .i64) .unit)))))) (.pr .bool .unit))))))))) (.st (.pr (.rw 40 (.st (.pr (.int .i64) (.pr .str (.pr .str (.pr (.int .i64) (.pr (.int .i64) .unit))))))) (.pr (.st (.pr (.int .i64) (.pr (.int .i64) (.pr (.int .i64) (.pr .str .unit))))) (.pr .bool (.pr (.mr 40 (.st (.pr (.int .i64) (.pr .str (.pr .str (.pr (.int .i64) (.pr (.int .i64) .unit))))))) (.pr (.st (.pr (.int .i64) (.pr .str (.pr .str (.pr (.int .i64) (.pr (.int .i64) .unit)))))) (.pr (.rw 5 (.int .u8)) (.pr (.st (.pr (.int .i64) (.pr .str (.pr .str (.pr (.int .i64) (.pr (.int .i64) .unit)))))) (.pr .bool .unit))))))))) [], .val (.int .i64), .val (.int .i64), .val (.int .i64), .val .str], [], fun z => folioref04_lexer__fail z.1 z.2.1 z.2.2.1 z.2.2.2.1 z.2.2.2.2⟩)
theorem folioref04_lexer__fail_ok : Go.Lf.EntryOk Go.Proofs.Tryz.prog GG 29 folioref04_lexer__failEnt.2 :=
  Go.Lf.fn_ok (c := folioref04_lexer__failCtx) (code := folioref04_lexer__failCode) (an := folioref04_lexer__failAnn) (slots := []) (fn := Go.Proofs.Tryz.f29) (by kernel_rfl) ⟨Tys_ok, Go.Lf.FnsOk.look .nil⟩ (by kernel_rfl) (by kernel_rfl) (by kernel_rfl) (by kernel_rfl) (by kernel_rfl) (Nat.le_of_ble_eq_true rfl) (by simp [Go.Lf.Ty.top]) (by simp [Go.Lf.Ty.top]) fun z r h => (folioref04_lexer__fail_eq z.1 z.2.1 z.2.2.1 z.2.2.2.1 z.2.2.2.2).trans h
noncomputable def folioref02_CharsCtx : Go.Lf.Ctx := ⟨69, Tys, [], [], [], [(3, (.mr 100 (.st (.pr (.int .i32) (.pr (.int .i64) (.pr (.int .i64) (.pr .bool .unit))))))), (19, (.mr 100 (.st (.pr (.int .i32) (.pr (.int .i64) (.pr (.int .i64) (.pr .bool .unit)))))))]⟩
noncomputable def folioref02_CharsCode : Go.Code := (Go.Proofs.Tryz.f56.body).getD .skip
def folioref02_CharsAnn : Go.Lf.Ann := (.seq .no (.seq .no (.seq (.seq .no (.loop ⟨[0], [], [(3, (.mr 100 (.st (.pr (.int .i32) (.pr (.int .i64) (.pr (.int .i64) (.pr .bool .unit))))))), (9, .it)], []⟩ (.one (.ext 0) ⟨[0], [], [(3, (.mr 100 (.st (.pr (.int .i32) (.pr (.int .i64) (.pr (.int .i64) (.pr .bool .unit)))))))], []⟩) .no)) (.seq (.seq .no (.loop ⟨[0], [], [(6, (.int .i64)), (3, (.mr 100 (.st (.pr (.int .i32) (.pr (.int .i64) (.pr (.int .i64) (.pr .bool .unit)))))))], []⟩ (.one (.ext 2) ⟨[], [], [(3, (.mr 100 (.st (.pr (.int .i32) (.pr (.int .i64) (.pr (.int .i64) (.pr .bool .unit)))))))], []⟩) (.seq .no (.seq (.join (.one .nrm ⟨[0, 6], [], [(3, (.mr 100 (.st (.pr (.int .i32) (.pr (.int .i64) (.pr (.int .i64) (.pr .bool .unit)))))))], []⟩) (.seq .no (.seq (.join (.one .nrm ⟨[0, 6], [], [(3, (.mr 100 (.st (.pr (.int .i32) (.pr (.int .i64) (.pr (.int .i64) (.pr .bool .unit))))))), (7, (.int .i64))], []⟩) .no) .no))) .no)))) .no))))
noncomputable def folioref02_Chars (a0 : List (UInt8)) : Option (List ((Int) × ((Int) × ((Int) × ((Bool) × (Unit)))))) :=
 (Go.Lf.loopC (σ := (List ((Int) × ((Int) × ((Int) × ((Bool) × (Unit)))))) × ((List (UInt8)) × (Int))) (κ := List ((Int) × ((Int) × ((Int) × ((Bool) × (Unit)))))) (fun z1 =>
     bif (decide (z1.2.2 < (((List.length z1.2.1) : Nat) : Int))) then ((Go.Lf.app (32 : Nat) z1.1 (((Go.Lf.runeAt z1.2.1 z1.2.2), (z1.2.2, ((0 : Int), (false, ())))) :: ([] : List ((Int) × ((Int) × ((Int) × ((Bool) × (Unit))))))))).bind fun r2 =>
     some (.inl (r2, (z1.2.1, (z1.2.2 + (Go.Lf.runeW z1.2.1 z1.2.2)))))
     else some (.inr z1.1)) (([] : List ((Int) × ((Int) × ((Int) × ((Bool) × (Unit)))))), (a0, (0 : Int))) : Option (List ((Int) × ((Int) × ((Int) × ((Bool) × (Unit))))))).bind fun r3 =>
 (Go.Lf.loopC (σ := (Int) × (List ((Int) × ((Int) × ((Int) × ((Bool) × (Unit))))))) (κ := List ((Int) × ((Int) × ((Int) × ((Bool) × (Unit)))))) (fun z4 =>
     bif (decide (z4.1 < (((List.length z4.2) : Nat) : Int))) then ((bif (decide ((Go.IntKind.wrap .i64 (z4.1 + (1 : Int))) < (((List.length z4.2) : Nat) : Int))) then ((Go.Lf.chk (List.length z4.2) (Go.IntKind.wrap .i64 (z4.1 + (1 : Int))))).bind fun r5 =>
         ((Go.Lf.nth z4.2 r5)).bind fun r6 =>
         some (z4.2, r6.2.1)
         else some (z4.2, (((List.length a0) : Nat) : Int))).bind fun r7 =>
       ((Go.Lf.chk (List.length r7.1) z4.1)).bind fun r8 =>
       ((Go.Lf.nth r7.1 r8)).bind fun r9 =>
       ((Go.Lf.chk (List.length r7.1) z4.1)).bind fun r10 =>
       ((Go.Lf.nth r7.1 r10)).bind fun r11 =>
       ((Go.Lf.chk (List.length (List.set r7.1 r10 (r11.1, (r11.2.1, ((Go.IntKind.wrap .i64 (r7.2 - r9.2.1)), r11.2.2.2))))) z4.1)).bind fun r12 =>
       ((Go.Lf.nth (List.set r7.1 r10 (r11.1, (r11.2.1, ((Go.IntKind.wrap .i64 (r7.2 - r9.2.1)), r11.2.2.2)))) r12)).bind fun r13 =>
       bif (decide ((r13.1 : Int) = (65533 : Int))) then ((Go.Lf.chk (List.length (List.set r7.1 r10 (r11.1, (r11.2.1, ((Go.IntKind.wrap .i64 (r7.2 - r9.2.1)), r11.2.2.2))))) z4.1)).bind fun r14 =>
       ((Go.Lf.nth (List.set r7.1 r10 (r11.1, (r11.2.1, ((Go.IntKind.wrap .i64 (r7.2 - r9.2.1)), r11.2.2.2)))) r14)).bind fun r15 =>
       ((Go.Lf.chk (List.length (List.set r7.1 r10 (r11.1, (r11.2.1, ((Go.IntKind.wrap .i64 (r7.2 - r9.2.1)), r11.2.2.2))))) z4.1)).bind fun r16 =>
       ((Go.Lf.nth (List.set r7.1 r10 (r11.1, (r11.2.1, ((Go.IntKind.wrap .i64 (r7.2 - r9.2.1)), r11.2.2.2)))) r16)).bind fun r17 =>
       some (List.set (List.set r7.1 r10 (r11.1, (r11.2.1, ((Go.IntKind.wrap .i64 (r7.2 - r9.2.1)), r11.2.2.2)))) r16 (r17.1, (r17.2.1, (r17.2.2.1, ((decide ((r15.2.2.1 : Int) = (1 : Int))), r17.2.2.2.2)))))
       else ((Go.Lf.chk (List.length (List.set r7.1 r10 (r11.1, (r11.2.1, ((Go.IntKind.wrap .i64 (r7.2 - r9.2.1)), r11.2.2.2))))) z4.1)).bind fun r18 =>
       ((Go.Lf.nth (List.set r7.1 r10 (r11.1, (r11.2.1, ((Go.IntKind.wrap .i64 (r7.2 - r9.2.1)), r11.2.2.2)))) r18)).bind fun r19 =>
       some (List.set (List.set r7.1 r10 (r11.1, (r11.2.1, ((Go.IntKind.wrap .i64 (r7.2 - r9.2.1)), r11.2.2.2)))) r18 (r19.1, (r19.2.1, (r19.2.2.1, (false, r19.2.2.2.2)))))).bind fun r20 =>
     some (.inl ((Go.IntKind.wrap .i64 (z4.1 + (1 : Int))), r20))
     else some (.inr z4.2)) ((0 : Int), r3) : Option (List ((Int) × ((Int) × ((Int) × ((Bool) × (Unit))))))).bind fun r21 =>
 some r21
theorem folioref02_Chars_eq (a0 : List (UInt8)) : Go.Lf.fnE folioref02_CharsCtx folioref02_CharsCode folioref02_CharsAnn [.val .str] [(.sl (.st (.pr (.int .i32) (.pr (.int .i64) (.pr (.int .i64) (.pr .bool .unit))))))] [.tmp 2] (a0) = folioref02_Chars a0 := by kernel_rfl
noncomputable def folioref02_CharsEnt : Nat × Go.Lf.Entry := (56, ⟨[.val .str], [(.sl (.st (.pr (.int .i32) (.pr (.int .i64) (.pr (.int .i64) (.pr .bool .unit))))))], fun z => folioref02_Chars z⟩)
theorem folioref02_Chars_ok : Go.Lf.EntryOk Go.Proofs.Tryz.prog GG 56 folioref02_CharsEnt.2 :=
  Go.Lf.fn_ok (c := folioref02_CharsCtx) (code := folioref02_CharsCode) (an := folioref02_CharsAnn) (slots := [.tmp 2]) (fn := Go.Proofs.Tryz.f56) (by kernel_rfl) ⟨Tys_ok, Go.Lf.FnsOk.look .nil⟩ (by kernel_rfl) (by kernel_rfl) (by kernel_rfl) (by kernel_rfl) (by kernel_rfl) (Nat.le_of_ble_eq_true rfl) (by simp [Go.Lf.Ty.top]) (by simp [Go.Lf.Ty.top]) fun z r h => (folioref02_Chars_eq z).trans h
noncomputable def folioref02_ControlCtx : Go.Lf.Ctx := ⟨17, Tys, [], [], [], []⟩
noncomputable def folioref02_ControlCode : Go.Code := (Go.Proofs.Tryz.f57.body).getD .skip
def folioref02_ControlAnn : Go.Lf.Ann := (.seq .no (.seq (.join (.one .nrm ⟨[], [], [(2, .bool)], []⟩) .no) .no))
noncomputable def folioref02_Control (a0 : Int) : Option (Bool) :=
 (bif (decide ((0 : Int) ≤ a0)) then bif (!(decide (a0 < (32 : Int)))) then bif (decide ((127 : Int) ≤ a0)) then some (decide (a0 ≤ (159 : Int)))
   else some false
   else some true
   else bif (decide ((127 : Int) ≤ a0)) then some (decide (a0 ≤ (159 : Int)))
   else some false).bind fun r1 =>
 some r1
theorem folioref02_Control_eq (a0 : Int) : Go.Lf.fnE folioref02_ControlCtx folioref02_ControlCode folioref02_ControlAnn [.val (.int .i32)] [.bool] [.tmp 2] (a0) = folioref02_Control a0 := by kernel_rfl
noncomputable def folioref02_ControlEnt : Nat × Go.Lf.Entry := (57, ⟨[.val (.int .i32)], [.bool], fun z => folioref02_Control z⟩)
theorem folioref02_Control_ok : Go.Lf.EntryOk Go.Proofs.Tryz.prog GG 57 folioref02_ControlEnt.2 :=
  Go.Lf.fn_ok (c := folioref02_ControlCtx) (code := folioref02_ControlCode) (an := folioref02_ControlAnn) (slots := [.tmp 2]) (fn := Go.Proofs.Tryz.f57) (by kernel_rfl) ⟨Tys_ok, Go.Lf.FnsOk.look .nil⟩ (by kernel_rfl) (by kernel_rfl) (by kernel_rfl) (by kernel_rfl) (by kernel_rfl) (Nat.le_of_ble_eq_true rfl) (by simp [Go.Lf.Ty.top]) (by simp [Go.Lf.Ty.top]) fun z r h => (folioref02_Control_eq z).trans h
noncomputable def folioref04_badCtx : Go.Lf.Ctx := ⟨40, Tys, [folioref02_CharsEnt, folioref02_ControlEnt], [], [], []⟩
noncomputable def folioref04_badCode : Go.Code := (Go.Proofs.Tryz.f30.body).getD .skip
def folioref04_badAnn : Go.Lf.Ann := (.seq .no (.seq .no (.seq (.seq .no (.loop ⟨[4], [], [(5, (.int .i64))], []⟩ (.more (.ext 0) ⟨[], [], [], []⟩ (.one .ret ⟨[], [], [(2, (.int .i64)), (3, .bool)], []⟩)) (.seq .no (.seq (.seq (.join (.one .nrm ⟨[5, 4], [], [(34, .bool)], []⟩) .no) .no) .no)))) .no)))
noncomputable def folioref04_bad (a0 : List (UInt8)) : Option ((Int) × (Bool)) :=
 ((Go.Fn.folioref02_Chars a0)).bind fun r1 =>
 (Go.Lf.loopC (σ := Int) (κ := (Unit) ⊕ ((Int) × (Bool))) (fun z2 =>
     bif (decide (z2 < (((List.length r1) : Nat) : Int))) then (((Go.Lf.idx r1 z2)).bind fun r3 =>
       bif (!r3.2.2.2.1) then ((Go.Lf.idx r1 z2)).bind fun r4 =>
       bif (decide ((r4.1 : Int) ≠ (9 : Int))) then ((Go.Lf.idx r1 z2)).bind fun r5 =>
       ((Go.Fn.folioref02_Control r5.1)).bind fun r6 =>
       some r6
       else some false
       else some true).bind fun r7 =>
     bif r7 then ((Go.Lf.idx r1 z2)).bind fun r8 =>
     some (.inr (.inr (r8.2.1, true)))
     else some (.inl (Go.IntKind.wrap .i64 (z2 + (1 : Int))))
     else some (.inr (.inl ()))) (0 : Int) : Option ((Unit) ⊕ ((Int) × (Bool)))).bind fun r9 =>
 Go.Lf.onSum r9 (fun a10 =>
 some ((0 : Int), false)) (fun b11 =>
 some (b11.1, b11.2))
theorem folioref04_bad_eq (a0 : List (UInt8)) : Go.Lf.fnE folioref04_badCtx folioref04_badCode folioref04_badAnn [.val .str] [(.int .i64), .bool] [.tmp 2, .tmp 3] (a0) = folioref04_bad a0 := by kernel_rfl
noncomputable def folioref04_badEnt : Nat × Go.Lf.Entry := (30, ⟨[.val .str], [(.int .i64), .bool], fun z => folioref04_bad z⟩)
theorem folioref04_bad_ok : Go.Lf.EntryOk Go.Proofs.Tryz.prog GG 30 folioref04_badEnt.2 :=
  Go.Lf.fn_ok (c := folioref04_badCtx) (code := folioref04_badCode) (an := folioref04_badAnn) (slots := [.tmp 2, .tmp 3]) (fn := Go.Proofs.Tryz.f30) (by kernel_rfl) ⟨Tys_ok, Go.Lf.FnsOk.look (.con folioref02_Chars_ok (.con folioref02_Control_ok .nil))⟩ (by kernel_rfl) (by kernel_rfl) (by kernel_rfl) (by kernel_rfl) (by kernel_rfl) (Nat.le_of_ble_eq_true rfl) (by simp [Go.Lf.Ty.top]) (by simp [Go.Lf.Ty.top]) fun z r h => (folioref04_bad_eq z).trans h
noncomputable def folioref04_blankCtx : Go.Lf.Ctx := ⟨9, Tys, [], [], [], []⟩
noncomputable def folioref04_blankCode : Go.Code := (Go.Proofs.Tryz.f58.body).getD .skip
def folioref04_blankAnn : Go.Lf.Ann := (.seq .no (.seq (.join (.one .nrm ⟨[], [], [(2, .bool)], []⟩) .no) .no))
noncomputable def folioref04_blank (a0 : Int) : Option (Bool) :=
 (bif (!(decide ((a0 : Int) = (32 : Int)))) then some (decide ((a0 : Int) = (9 : Int)))
   else some true).bind fun r1 =>
 some r1
theorem folioref04_blank_eq (a0 : Int) : Go.Lf.fnE folioref04_blankCtx folioref04_blankCode folioref04_blankAnn [.val (.int .u8)] [.bool] [.tmp 2] (a0) = folioref04_blank a0 := by kernel_rfl
noncomputable def folioref04_blankEnt : Nat × Go.Lf.Entry := (58, ⟨[.val (.int .u8)], [.bool], fun z => folioref04_blank z⟩)
theorem folioref04_blank_ok : Go.Lf.EntryOk Go.Proofs.Tryz.prog GG 58 folioref04_blankEnt.2 :=
  Go.Lf.fn_ok (c := folioref04_blankCtx) (code := folioref04_blankCode) (an := folioref04_blankAnn) (slots := [.tmp 2]) (fn := Go.Proofs.Tryz.f58) (by kernel_rfl) ⟨Tys_ok, Go.Lf.FnsOk.look .nil⟩ (by kernel_rfl) (by kernel_rfl) (by kernel_rfl) (by kernel_rfl) (by kernel_rfl) (Nat.le_of_ble_eq_true rfl) (by simp [Go.Lf.Ty.top]) (by simp [Go.Lf.Ty.top]) fun z r h => (folioref04_blank_eq z).trans h
noncomputable def folioref04_stripCtx : Go.Lf.Ctx := ⟨30, Tys, [folioref04_blankEnt], [], [], []⟩
noncomputable def folioref04_stripCode : Go.Code := (Go.Proofs.Tryz.f31.body).getD .skip
def folioref04_stripAnn : Go.Lf.Ann := (.seq .no (.seq (.loop ⟨[], [], [(0, .str)], []⟩ (.one (.ext 0) ⟨[], [], [(0, .str)], []⟩) (.seq (.seq (.join (.one .nrm ⟨[0], [], [(10, .bool)], []⟩) .no) .no) .no)) (.seq (.loop ⟨[], [], [(0, .str)], []⟩ (.one (.ext 2) ⟨[], [], [(0, .str)], []⟩) (.seq (.seq (.join (.one .nrm ⟨[0], [], [(23, .bool)], []⟩) .no) .no) .no)) .no)))
noncomputable def folioref04_strip (a0 : List (UInt8)) : Option (List (UInt8)) :=
 (Go.Lf.loopC (σ := List (UInt8)) (κ := List (UInt8)) (fun z1 =>
     (bif (decide ((0 : Int) < (((List.length z1) : Nat) : Int))) then ((Go.Lf.idx z1 (0 : Int))).bind fun r2 =>
       ((Go.Fn.folioref04_blank (((UInt8.toNat r2) : Nat) : Int))).bind fun r3 =>
       some r3
       else some false).bind fun r4 =>
     bif r4 then ((Go.Lf.sub z1 (1 : Int) (((List.length z1) : Nat) : Int))).bind fun r5 =>
     some (.inl r5)
     else some (.inr z1)) a0 : Option (List (UInt8))).bind fun r6 =>
 (Go.Lf.loopC (σ := List (UInt8)) (κ := List (UInt8)) (fun z7 =>
     (bif (decide ((0 : Int) < (((List.length z7) : Nat) : Int))) then ((Go.Lf.idx z7 (Go.IntKind.wrap .i64 ((((List.length z7) : Nat) : Int) - (1 : Int))))).bind fun r8 =>
       ((Go.Fn.folioref04_blank (((UInt8.toNat r8) : Nat) : Int))).bind fun r9 =>
       some r9
       else some false).bind fun r10 =>
     bif r10 then ((Go.Lf.sub z7 (0 : Int) (Go.IntKind.wrap .i64 ((((List.length z7) : Nat) : Int) - (1 : Int))))).bind fun r11 =>
     some (.inl r11)
     else some (.inr z7)) r6 : Option (List (UInt8))).bind fun r12 =>
 some r12
theorem folioref04_strip_eq (a0 : List (UInt8)) : Go.Lf.fnE folioref04_stripCtx folioref04_stripCode folioref04_stripAnn [.val .str] [.str] [.tmp 2] (a0) = folioref04_strip a0 := by kernel_rfl
noncomputable def folioref04_stripEnt : Nat × Go.Lf.Entry := (31, ⟨[.val .str], [.str], fun z => folioref04_strip z⟩)
theorem folioref04_strip_ok : Go.Lf.EntryOk Go.Proofs.Tryz.prog GG 31 folioref04_stripEnt.2 :=
  Go.Lf.fn_ok (c := folioref04_stripCtx) (code := folioref04_stripCode) (an := folioref04_stripAnn) (slots := [.tmp 2]) (fn := Go.Proofs.Tryz.f31) (by kernel_rfl) ⟨Tys_ok, Go.Lf.FnsOk.look (.con folioref04_blank_ok .nil)⟩ (by kernel_rfl) (by kernel_rfl) (by kernel_rfl) (by kernel_rfl) (by kernel_rfl) (Nat.le_of_ble_eq_true rfl) (by simp [Go.Lf.Ty.top]) (by simp [Go.Lf.Ty.top]) fun z r h => (folioref04_strip_eq z).trans h
noncomputable def folioref04_lexer__flushCtx : Go.Lf.Ctx := ⟨37, Tys, [], [21], [], [(21, (.rw 40 (.st (.pr (.int .i64) (.pr .str (.pr .str (.pr (.int .i64) (.pr (.int .i64) .unit))))))))]⟩
noncomputable def folioref04_lexer__flushCode : Go.Code := (Go.Proofs.Tryz.f34.body).getD .skip
def folioref04_lexer__flushAnn : Go.Lf.Ann := (.seq (.join (.one .nrm ⟨[], [(0, 0, [], 0)], [], [(0, 52, (.st (.pr (.rw 40 (.st (.pr (.int .i64) (.pr .str (.pr .str (.pr (.int .i64) (.pr (.int .i64) .unit))))))) (.pr (.st (.pr (.int .i64) (.pr (.int .i64) (.pr (.int .i64) (.pr .str .unit))))) (.pr .bool (.pr (.mr 40 (.st (.pr (.int .i64) (.pr .str (.pr .str (.pr (.int .i64) (.pr (.int .i64) .unit))))))) (.pr (.st (.pr (.int .i64) (.pr .str (.pr .str (.pr (.int .i64) (.pr (.int .i64) .unit)))))) (.pr (.rw 5 (.int .u8)) (.pr (.st (.pr (.int .i64) (.pr .str (.pr .str (.pr (.int .i64) (.pr (.int .i64) .unit)))))) (.pr .bool .unit))))))))))]⟩) (.seq .no (.cnd (.seq .no (.soup 10)) .no))) .no)
noncomputable def folioref04_lexer__flush (a0 : (List ((Int) × ((List (UInt8)) × ((List (UInt8)) × ((Int) × ((Int) × (Unit))))))) × (((Int) × ((Int) × ((Int) × ((List (UInt8)) × (Unit))))) × ((Bool) × ((List ((Int) × ((List (UInt8)) × ((List (UInt8)) × ((Int) × ((Int) × (Unit))))))) × (((Int) × ((List (UInt8)) × ((List (UInt8)) × ((Int) × ((Int) × (Unit)))))) × ((List (Int)) × (((Int) × ((List (UInt8)) × ((List (UInt8)) × ((Int) × ((Int) × (Unit)))))) × ((Bool) × (Unit))))))))) : Option ((List ((Int) × ((List (UInt8)) × ((List (UInt8)) × ((Int) × ((Int) × (Unit))))))) × (((Int) × ((Int) × ((Int) × ((List (UInt8)) × (Unit))))) × ((Bool) × ((List ((Int) × ((List (UInt8)) × ((List (UInt8)) × ((Int) × ((Int) × (Unit))))))) × (((Int) × ((List (UInt8)) × ((List (UInt8)) × ((Int) × ((Int) × (Unit)))))) × ((List (Int)) × (((Int) × ((List (UInt8)) × ((List (UInt8)) × ((Int) × ((Int) × (Unit)))))) × ((Bool) × (Unit))))))))) :=
 (bif (decide ((a0.2.2.2.2.1.1 : Int) = (6 : Int))) then ((Go.Lf.app (56 : Nat) a0.1 ((a0.2.2.2.2.1.1, (a0.2.2.2.2.1.2.1, ((Go.Lf.bytesU a0.2.2.2.2.2.1), a0.2.2.2.2.1.2.2.2))) :: ([] : List ((Int) × ((List (UInt8)) × ((List (UInt8)) × ((Int) × ((Int) × (Unit)))))))))).bind fun r1 =>
   some (r1, (a0.2.1, (a0.2.2.1, (a0.2.2.2.1, ((a0.2.2.2.2.1.1, (a0.2.2.2.2.1.2.1, ((Go.Lf.bytesU a0.2.2.2.2.2.1), a0.2.2.2.2.1.2.2.2))), a0.2.2.2.2.2)))))
   else some a0).bind fun r2 =>
 some (r2.1, (r2.2.1, (r2.2.2.1, (r2.2.2.2.1, (((0 : Int), (([] : List (UInt8)), (([] : List (UInt8)), ((0 : Int), ((0 : Int), ()))))), (([] : List (Int)), r2.2.2.2.2.2.2))))))
theorem folioref04_lexer__flush_eq (a0 : (List ((Int) × ((List (UInt8)) × ((List (UInt8)) × ((Int) × ((Int) × (Unit))))))) × (((Int) × ((Int) × ((Int) × ((List (UInt8)) × (Unit))))) × ((Bool) × ((List ((Int) × ((List (UInt8)) × ((List (UInt8)) × ((Int) × ((Int) × (Unit))))))) × (((Int) × ((List (UInt8)) × ((List (UInt8)) × ((Int) × ((Int) × (Unit)))))) × ((List (Int)) × (((Int) × ((List (UInt8)) × ((List (UInt8)) × ((Int) × ((Int) × (Unit)))))) × ((Bool) × (Unit))))))))) : Go.Lf.fnE folioref04_lexer__flushCtx folioref04_lexer__flushCode folioref04_lexer__flushAnn [.obj 52 (.st (.pr (.rw 40 (.st (.pr (.int .i64) (.pr .str (.pr .str (.pr (.int .i64) (.pr (.int .i64) .unit))))))) (.pr (.st (.pr (.int .i64) (.pr (.int .i64) (.pr (.int .i64) (.pr .str .unit))))) (.pr .bool (.pr (.mr 40 (.st (.pr (.int .i64) (.pr .str (.pr .str (.pr (.int .i64) (.pr (.int .i64) .unit))))))) (.pr (.st (.pr (.int .i64) (.pr .str (.pr .str (.pr (.int .i64) (.pr (.int .i64) .unit)))))) (.pr (.rw 5 (.int .u8)) (.pr (.st (.pr (.int .i64) (.pr .str (.pr .str (.pr (.int .i64) (.pr (.int .i64) .unit)))))) (.pr .bool .unit))))))))) (.st (.pr (.rw 40 (.st (.pr (.int .i64) (.pr .str (.pr .str (.pr (.int .i64) (.pr (.int .i64) .unit))))))) (.pr (.st (.pr (.int .i64) (.pr (.int .i64) (.pr (.int .i64) (.pr .str .unit))))) (.pr .bool (.pr (.mr 40 (.st (.pr (.int .i64) (.pr .str (.pr .str (.pr (.int .i64) (.pr (.int .i64) .unit))))))) (.pr (.st (.pr (.int .i64) (.pr .str (.pr .str (.pr (.int .i64) (.pr (.int .i64) .unit)))))) (.pr (.rw 5 (.int .u8)) (.pr (.st (.pr (.int .i64) (.pr .str (.pr .str (.pr (.int .i64) (.pr (.int .i64) .unit)))))) (.pr .bool .unit))))))))) []] [] [] (a0) = folioref04_lexer__flush a0 := by kernel_rfl
noncomputable def folioref04_lexer__flushEnt : Nat × Go.Lf.Entry := (34, ⟨[.obj 52 (.st (.pr (.rw 40 (.st (.pr (.int .i64) (.pr .str (.pr .str (.pr (.int .i64) (.pr (.int .i64) .unit))))))) (.pr (.st (.pr (.int .i64) (.pr (.int .i64) (.pr (.int .i64) (.pr .str .unit))))) (.pr .bool (.pr (.mr 40 (.st (.pr (.int .i64) (.pr .str (.pr .str (.pr (.int .i64) (.pr (.int .i64) .unit))))))) (.pr (.st (.pr (.int .i64) (.pr .str (.pr .str (.pr (.int .i64) (.pr (.int .i64) .unit)))))) (.pr (.rw 5 (.int .u8)) (.pr (.st (.pr (.int .i64) (.pr .str (.pr .str (.pr (.int .i64) (.pr (.int .i64) .unit)))))) (.pr .bool .unit))))))))) (.st (.pr (.rw 40 (.st (.pr (.int .i64) (.pr .str (.pr .str (.pr (.int .i64) (.pr (.int .i64) .unit))))))) (.pr (.st (.pr (.int .i64) (.pr (.int .i64) (.pr (.int .i64) (.pr .str .unit))))) (.pr .bool (.pr (.mr 40 (.st (.pr (.int .i64) (.pr .str (.pr .str (.pr (.int .i64) (.pr (.int .i64) .unit))))))) (.pr (.st (.pr (.int .i64) (.pr .str (.pr .str (.pr (.int .i64) (.pr (.int .i64) .unit)))))) (.pr (.rw 5 (.int .u8)) (.pr (.st (.pr (.int .i64) (.pr .str (.pr .str (.pr (.int .i64) (.pr (.int .i64) .unit)))))) (.pr .bool .unit))))))))) []], [], fun z => folioref04_lexer__flush z⟩)
theorem folioref04_lexer__flush_ok : Go.Lf.EntryOk Go.Proofs.Tryz.prog GG 34 folioref04_lexer__flushEnt.2 :=
  Go.Lf.fn_ok (c := folioref04_lexer__flushCtx) (code := folioref04_lexer__flushCode) (an := folioref04_lexer__flushAnn) (slots := []) (fn := Go.Proofs.Tryz.f34) (by kernel_rfl) ⟨Tys_ok, Go.Lf.FnsOk.look .nil⟩ (by kernel_rfl) (by kernel_rfl) (by kernel_rfl) (by kernel_rfl) (by kernel_rfl) (Nat.le_of_ble_eq_true rfl) (by simp [Go.Lf.Ty.top]) (by simp [Go.Lf.Ty.top]) fun z r h => (folioref04_lexer__flush_eq z).trans h
noncomputable def folioref04_lexer__endCtx : Go.Lf.Ctx := ⟨49, Tys, [folioref04_lexer__failEnt, folioref04_lexer__flushEnt], [], [], []⟩
noncomputable def folioref04_lexer__endCode : Go.Code := (Go.Proofs.Tryz.f16.body).getD .skip
def folioref04_lexer__endAnn : Go.Lf.Ann := (.seq .no (.seq (.join (.one .nrm ⟨[], [(0, 0, [], 0)], [], [(0, 52, (.st (.pr (.rw 40 (.st (.pr (.int .i64) (.pr .str (.pr .str (.pr (.int .i64) (.pr (.int .i64) .unit))))))) (.pr (.st (.pr (.int .i64) (.pr (.int .i64) (.pr (.int .i64) (.pr .str .unit))))) (.pr .bool (.pr (.mr 40 (.st (.pr (.int .i64) (.pr .str (.pr .str (.pr (.int .i64) (.pr (.int .i64) .unit))))))) (.pr (.st (.pr (.int .i64) (.pr .str (.pr .str (.pr (.int .i64) (.pr (.int .i64) .unit)))))) (.pr (.rw 5 (.int .u8)) (.pr (.st (.pr (.int .i64) (.pr .str (.pr .str (.pr (.int .i64) (.pr (.int .i64) .unit)))))) (.pr .bool .unit))))))))))]⟩) (.seq .no (.cnd (.seq (.soup 13) .no) .no))) .no))
noncomputable def folioref04_lexer__end (a0 : (List ((Int) × ((List (UInt8)) × ((List (UInt8)) × ((Int) × ((Int) × (Unit))))))) × (((Int) × ((Int) × ((Int) × ((List (UInt8)) × (Unit))))) × ((Bool) × ((List ((Int) × ((List (UInt8)) × ((List (UInt8)) × ((Int) × ((Int) × (Unit))))))) × (((Int) × ((List (UInt8)) × ((List (UInt8)) × ((Int) × ((Int) × (Unit)))))) × ((List (Int)) × (((Int) × ((List (UInt8)) × ((List (UInt8)) × ((Int) × ((Int) × (Unit)))))) × ((Bool) × (Unit))))))))) : Option ((List ((Int) × ((List (UInt8)) × ((List (UInt8)) × ((Int) × ((Int) × (Unit))))))) × (((Int) × ((Int) × ((Int) × ((List (UInt8)) × (Unit))))) × ((Bool) × ((List ((Int) × ((List (UInt8)) × ((List (UInt8)) × ((Int) × ((Int) × (Unit))))))) × (((Int) × ((List (UInt8)) × ((List (UInt8)) × ((Int) × ((Int) × (Unit)))))) × ((List (Int)) × (((Int) × ((List (UInt8)) × ((List (UInt8)) × ((Int) × ((Int) × (Unit)))))) × ((Bool) × (Unit))))))))) :=
 bif (!a0.2.2.1) then some a0
 else (bif (decide ((0 : Int) < (((List.length a0.2.2.2.1) : Nat) : Int))) then ((Go.Lf.chk (List.length a0.2.2.2.1) (Go.IntKind.wrap .i64 ((((List.length a0.2.2.2.1) : Nat) : Int) - (1 : Int))))).bind fun r1 =>
   ((Go.Lf.nth a0.2.2.2.1 r1)).bind fun r2 =>
   ((Go.Fn.folioref04_lexer__fail a0 (45 : Int) r2.2.2.2.1 r2.2.2.2.2.1 r2.2.1)).bind fun r3 =>
   some r3
   else some a0).bind fun r4 =>
 ((Go.Fn.folioref04_lexer__flush (r4.1, (r4.2.1, (r4.2.2.1, (r4.2.2.2.1, (r4.2.2.2.2.1, (r4.2.2.2.2.2.1, (((0 : Int), (([] : List (UInt8)), (([] : List (UInt8)), ((0 : Int), ((0 : Int), ()))))), r4.2.2.2.2.2.2.2))))))))).bind fun r5 =>
 some (r5.1, (r5.2.1, (false, (([] : List ((Int) × ((List (UInt8)) × ((List (UInt8)) × ((Int) × ((Int) × (Unit))))))), (r5.2.2.2.2.1, (r5.2.2.2.2.2.1, (r5.2.2.2.2.2.2.1, (false, r5.2.2.2.2.2.2.2.2))))))))
theorem folioref04_lexer__end_eq (a0 : (List ((Int) × ((List (UInt8)) × ((List (UInt8)) × ((Int) × ((Int) × (Unit))))))) × (((Int) × ((Int) × ((Int) × ((List (UInt8)) × (Unit))))) × ((Bool) × ((List ((Int) × ((List (UInt8)) × ((List (UInt8)) × ((Int) × ((Int) × (Unit))))))) × (((Int) × ((List (UInt8)) × ((List (UInt8)) × ((Int) × ((Int) × (Unit)))))) × ((List (Int)) × (((Int) × ((List (UInt8)) × ((List (UInt8)) × ((Int) × ((Int) × (Unit)))))) × ((Bool) × (Unit))))))))) : Go.Lf.fnE folioref04_lexer__endCtx folioref04_lexer__endCode folioref04_lexer__endAnn [.obj 52 (.st (.pr (.rw 40 (.st (.pr (.int .i64) (.pr .str (.pr .str (.pr (.int .i64) (.pr (.int .i64) .unit))))))) (.pr (.st (.pr (.int .i64) (.pr (.int .i64) (.pr (.int .i64) (.pr .str .unit))))) (.pr .bool (.pr (.mr 40 (.st (.pr (.int .i64) (.pr .str (.pr .str (.pr (.int .i64) (.pr (.int .i64) .unit))))))) (.pr (.st (.pr (.int .i64) (.pr .str (.pr .str (.pr (.int .i64) (.pr (.int .i64) .unit)))))) (.pr (.rw 5 (.int .u8)) (.pr (.st (.pr (.int .i64) (.pr .str (.pr .str (.pr (.int .i64) (.pr (.int .i64) .unit)))))) (.pr .bool .unit))))))))) (.st (.pr (.rw 40 (.st (.pr (.int .i64) (.pr .str (.pr .str (.pr (.int .i64) (.pr (.int .i64) .unit))))))) (.pr (.st (.pr (.int .i64) (.pr (.int .i64) (.pr (.int .i64) (.pr .str .unit))))) (.pr .bool (.pr (.mr 40 (.st (.pr (.int .i64) (.pr .str (.pr .str (.pr (.int .i64) (.pr (.int .i64) .unit))))))) (.pr (.st (.pr (.int .i64) (.pr .str (.pr .str (.pr (.int .i64) (.pr (.int .i64) .unit)))))) (.pr (.rw 5 (.int .u8)) (.pr (.st (.pr (.int .i64) (.pr .str (.pr .str (.pr (.int .i64) (.pr (.int .i64) .unit)))))) (.pr .bool .unit))))))))) []] [] [] (a0) = folioref04_lexer__end a0 := by kernel_rfl
noncomputable def folioref04_lexer__endEnt : Nat × Go.Lf.Entry := (16, ⟨[.obj 52 (.st (.pr (.rw 40 (.st (.pr (.int .i64) (.pr .str (.pr .str (.pr (.int .i64) (.pr (.int .i64) .unit))))))) (.pr (.st (.pr (.int .i64) (.pr (.int .i64) (.pr (.int .i64) (.pr .str .unit))))) (.pr .bool (.pr (.mr 40 (.st (.pr (.int .i64) (.pr .str (.pr .str (.pr (.int .i64) (.pr (.int .i64) .unit))))))) (.pr (.st (.pr (.int .i64) (.pr .str (.pr .str (.pr (.int .i64) (.pr (.int .i64) .unit)))))) (.pr (.rw 5 (.int .u8)) (.pr (.st (.pr (.int .i64) (.pr .str (.pr .str (.pr (.int .i64) (.pr (.int .i64) .unit)))))) (.pr .bool .unit))))))))) (.st (.pr (.rw 40 (.st (.pr (.int .i64) (.pr .str (.pr .str (.pr (.int .i64) (.pr (.int .i64) .unit))))))) (.pr (.st (.pr (.int .i64) (.pr (.int .i64) (.pr (.int .i64) (.pr .str .unit))))) (.pr .bool (.pr (.mr 40 (.st (.pr (.int .i64) (.pr .str (.pr .str (.pr (.int .i64) (.pr (.int .i64) .unit))))))) (.pr (.st (.pr (.int .i64) (.pr .str (.pr .str (.pr (.int .i64) (.pr (.int .i64) .unit)))))) (.pr (.rw 5 (.int .u8)) (.pr (.st (.pr (.int .i64) (.pr .str (.pr .str (.pr (.int .i64) (.pr (.int .i64) .unit)))))) (.pr .bool .unit))))))))) []], [], fun z => folioref04_lexer__end z⟩)
theorem folioref04_lexer__end_ok : Go.Lf.EntryOk Go.Proofs.Tryz.prog GG 16 folioref04_lexer__endEnt.2 :=
  Go.Lf.fn_ok (c := folioref04_lexer__endCtx) (code := folioref04_lexer__endCode) (an := folioref04_lexer__endAnn) (slots := []) (fn := Go.Proofs.Tryz.f16) (by kernel_rfl) ⟨Tys_ok, Go.Lf.FnsOk.look (.con folioref04_lexer__fail_ok (.con folioref04_lexer__flush_ok .nil))⟩ (by kernel_rfl) (by kernel_rfl) (by kernel_rfl) (by kernel_rfl) (by kernel_rfl) (Nat.le_of_ble_eq_true rfl) (by simp [Go.Lf.Ty.top]) (by simp [Go.Lf.Ty.top]) fun z r h => (folioref04_lexer__end_eq z).trans h
noncomputable def folioref04_letterCtx : Go.Lf.Ctx := ⟨9, Tys, [], [], [], []⟩
noncomputable def folioref04_letterCode : Go.Code := (Go.Proofs.Tryz.f85.body).getD .skip
def folioref04_letterAnn : Go.Lf.Ann := (.seq .no (.seq (.join (.one .nrm ⟨[], [], [(2, .bool)], []⟩) .no) .no))
noncomputable def folioref04_letter (a0 : Int) : Option (Bool) :=
 (bif (decide ((97 : Int) ≤ a0)) then some (decide (a0 ≤ (122 : Int)))
   else some false).bind fun r1 =>
 some r1
theorem folioref04_letter_eq (a0 : Int) : Go.Lf.fnE folioref04_letterCtx folioref04_letterCode folioref04_letterAnn [.val (.int .u8)] [.bool] [.tmp 2] (a0) = folioref04_letter a0 := by kernel_rfl
noncomputable def folioref04_letterEnt : Nat × Go.Lf.Entry := (85, ⟨[.val (.int .u8)], [.bool], fun z => folioref04_letter z⟩)
theorem folioref04_letter_ok : Go.Lf.EntryOk Go.Proofs.Tryz.prog GG 85 folioref04_letterEnt.2 :=
  Go.Lf.fn_ok (c := folioref04_letterCtx) (code := folioref04_letterCode) (an := folioref04_letterAnn) (slots := [.tmp 2]) (fn := Go.Proofs.Tryz.f85) (by kernel_rfl) ⟨Tys_ok, Go.Lf.FnsOk.look .nil⟩ (by kernel_rfl) (by kernel_rfl) (by kernel_rfl) (by kernel_rfl) (by kernel_rfl) (Nat.le_of_ble_eq_true rfl) (by simp [Go.Lf.Ty.top]) (by simp [Go.Lf.Ty.top]) fun z r h => (folioref04_letter_eq z).trans h
noncomputable def folioref04_lettersCtx : Go.Lf.Ctx := ⟨23, Tys, [folioref04_letterEnt], [], [], []⟩
noncomputable def folioref04_lettersCode : Go.Code := (Go.Proofs.Tryz.f59.body).getD .skip
def folioref04_lettersAnn : Go.Lf.Ann := (.seq .no (.seq .no (.seq (.loop ⟨[1, 0], [], [(5, (.int .i64))], []⟩ (.one (.ext 0) ⟨[], [], [(5, (.int .i64))], []⟩) (.seq (.seq (.join (.one .nrm ⟨[1, 0, 5], [], [(19, .bool)], []⟩) .no) .no) .no)) .no)))
noncomputable def folioref04_letters (a0 : List (UInt8)) (a1 : Int) : Option (Int) :=
 (Go.Lf.loopC (σ := Int) (κ := Int) (fun z1 =>
     (bif (decide ((Go.IntKind.wrap .i64 (a1 + z1)) < (((List.length a0) : Nat) : Int))) then ((Go.Lf.idx a0 (Go.IntKind.wrap .i64 (a1 + z1)))).bind fun r2 =>
       ((Go.Fn.folioref04_letter (((UInt8.toNat r2) : Nat) : Int))).bind fun r3 =>
       some r3
       else some false).bind fun r4 =>
     bif r4 then some (.inl (Go.IntKind.wrap .i64 (z1 + (1 : Int))))
     else some (.inr z1)) (0 : Int) : Option (Int)).bind fun r5 =>
 some r5
theorem folioref04_letters_eq (a0 : List (UInt8)) (a1 : Int) : Go.Lf.fnE folioref04_lettersCtx folioref04_lettersCode folioref04_lettersAnn [.val .str, .val (.int .i64)] [(.int .i64)] [.tmp 4] (a0, a1) = folioref04_letters a0 a1 := by kernel_rfl
noncomputable def folioref04_lettersEnt : Nat × Go.Lf.Entry := (59, ⟨[.val .str, .val (.int .i64)], [(.int .i64)], fun z => folioref04_letters z.1 z.2⟩)
theorem folioref04_letters_ok : Go.Lf.EntryOk Go.Proofs.Tryz.prog GG 59 folioref04_lettersEnt.2 :=
  Go.Lf.fn_ok (c := folioref04_lettersCtx) (code := folioref04_lettersCode) (an := folioref04_lettersAnn) (slots := [.tmp 4]) (fn := Go.Proofs.Tryz.f59) (by kernel_rfl) ⟨Tys_ok, Go.Lf.FnsOk.look (.con folioref04_letter_ok .nil)⟩ (by kernel_rfl) (by kernel_rfl) (by kernel_rfl) (by kernel_rfl) (by kernel_rfl) (Nat.le_of_ble_eq_true rfl) (by simp [Go.Lf.Ty.top]) (by simp [Go.Lf.Ty.top]) fun z r h => (folioref04_letters_eq z.1 z.2).trans h
noncomputable def folioref04_lexer__directiveCtx : Go.Lf.Ctx := ⟨60, Tys, [folioref04_lexer__endEnt, folioref04_lexer__failEnt, folioref04_stripEnt, folioref04_blankEnt, folioref04_lettersEnt], [44], [], [(44, (.rw 40 (.st (.pr (.int .i64) (.pr .str (.pr .str (.pr (.int .i64) (.pr (.int .i64) .unit))))))))]⟩
noncomputable def folioref04_lexer__directiveCode : Go.Code := (Go.Proofs.Tryz.f32.body).getD .skip
def folioref04_lexer__directiveAnn : Go.Lf.Ann := (.seq .no (.seq (.seq (.join (.one .nrm ⟨[6, 1, 2], [(0, 0, [], 0)], [(29, .bool)], [(0, 52, (.st (.pr (.rw 40 (.st (.pr (.int .i64) (.pr .str (.pr .str (.pr (.int .i64) (.pr (.int .i64) .unit))))))) (.pr (.st (.pr (.int .i64) (.pr (.int .i64) (.pr (.int .i64) (.pr .str .unit))))) (.pr .bool (.pr (.mr 40 (.st (.pr (.int .i64) (.pr .str (.pr .str (.pr (.int .i64) (.pr (.int .i64) .unit))))))) (.pr (.st (.pr (.int .i64) (.pr .str (.pr .str (.pr (.int .i64) (.pr (.int .i64) .unit)))))) (.pr (.rw 5 (.int .u8)) (.pr (.st (.pr (.int .i64) (.pr .str (.pr .str (.pr (.int .i64) (.pr (.int .i64) .unit)))))) (.pr .bool .unit))))))))))]⟩) .no) .no) (.seq .no (.soup 17))))
noncomputable def folioref04_lexer__directive (a0 : (List ((Int) × ((List (UInt8)) × ((List (UInt8)) × ((Int) × ((Int) × (Unit))))))) × (((Int) × ((Int) × ((Int) × ((List (UInt8)) × (Unit))))) × ((Bool) × ((List ((Int) × ((List (UInt8)) × ((List (UInt8)) × ((Int) × ((Int) × (Unit))))))) × (((Int) × ((List (UInt8)) × ((List (UInt8)) × ((Int) × ((Int) × (Unit)))))) × ((List (Int)) × (((Int) × ((List (UInt8)) × ((List (UInt8)) × ((Int) × ((Int) × (Unit)))))) × ((Bool) × (Unit))))))))) (a1 : List (UInt8)) (a2 : Int) : Option ((List ((Int) × ((List (UInt8)) × ((List (UInt8)) × ((Int) × ((Int) × (Unit))))))) × (((Int) × ((Int) × ((Int) × ((List (UInt8)) × (Unit))))) × ((Bool) × ((List ((Int) × ((List (UInt8)) × ((List (UInt8)) × ((Int) × ((Int) × (Unit))))))) × (((Int) × ((List (UInt8)) × ((List (UInt8)) × ((Int) × ((Int) × (Unit)))))) × ((List (Int)) × (((Int) × ((List (UInt8)) × ((List (UInt8)) × ((Int) × ((Int) × (Unit)))))) × ((Bool) × (Unit))))))))) :=
 ((Go.Fn.folioref04_letters a1 (1 : Int))).bind fun r1 =>
 (bif (!(decide (r1 < (1 : Int)))) then bif (!(decide ((12 : Int) < r1))) then bif (decide ((Go.IntKind.wrap .i64 ((1 : Int) + r1)) < (((List.length a1) : Nat) : Int))) then ((Go.Lf.idx a1 (Go.IntKind.wrap .i64 ((1 : Int) + r1)))).bind fun r2 =>
   ((Go.Fn.folioref04_blank (((UInt8.toNat r2) : Nat) : Int))).bind fun r3 =>
   some ((!r3), a0)
   else some (false, a0)
   else some (true, a0)
   else some (true, a0)).bind fun r4 =>
 bif r4.1 then ((Go.Lf.sub a1 (1 : Int) (Go.IntKind.wrap .i64 ((1 : Int) + (Min.min r1 (12 : Int)))))).bind fun r5 =>
 ((Go.Fn.folioref04_lexer__fail r4.2 (41 : Int) a2 (2 : Int) r5)).bind fun r6 =>
 some r6
 else ((Go.Fn.folioref04_lexer__end r4.2)).bind fun r7 =>
 ((Go.Lf.sub a1 (1 : Int) (Go.IntKind.wrap .i64 ((1 : Int) + r1)))).bind fun r8 =>
 ((Go.Lf.sub a1 (Go.IntKind.wrap .i64 ((1 : Int) + r1)) (((List.length a1) : Nat) : Int))).bind fun r9 =>
 ((Go.Fn.folioref04_strip r9)).bind fun r10 =>
 ((Go.Lf.app (56 : Nat) r7.1 (((1 : Int), (r8, (r10, (a2, ((1 : Int), ()))))) :: ([] : List ((Int) × ((List (UInt8)) × ((List (UInt8)) × ((Int) × ((Int) × (Unit)))))))))).bind fun r11 =>
 some (r11, r7.2)
theorem folioref04_lexer__directive_eq (a0 : (List ((Int) × ((List (UInt8)) × ((List (UInt8)) × ((Int) × ((Int) × (Unit))))))) × (((Int) × ((Int) × ((Int) × ((List (UInt8)) × (Unit))))) × ((Bool) × ((List ((Int) × ((List (UInt8)) × ((List (UInt8)) × ((Int) × ((Int) × (Unit))))))) × (((Int) × ((List (UInt8)) × ((List (UInt8)) × ((Int) × ((Int) × (Unit)))))) × ((List (Int)) × (((Int) × ((List (UInt8)) × ((List (UInt8)) × ((Int) × ((Int) × (Unit)))))) × ((Bool) × (Unit))))))))) (a1 : List (UInt8)) (a2 : Int) : Go.Lf.fnE folioref04_lexer__directiveCtx folioref04_lexer__directiveCode folioref04_lexer__directiveAnn [.obj 52 (.st (.pr (.rw 40 (.st (.pr (.int .i64) (.pr .str (.pr .str (.pr (.int .i64) (.pr (.int .i64) .unit))))))) (.pr (.st (.pr (.int .i64) (.pr (.int .i64) (.pr (.int .i64) (.pr .str .unit))))) (.pr .bool (.pr (.mr 40 (.st (.pr (.int .i64) (.pr .str (.pr .str (.pr (.int .i64) (.pr (.int .i64) .unit))))))) (.pr (.st (.pr (.int .i64) (.pr .str (.pr .str (.pr (.int .i64) (.pr (.int .i64) .unit)))))) (.pr (.rw 5 (.int .u8)) (.pr (.st (.pr (.int .i64) (.pr .str (.pr .str (.pr (.int .i64) (.pr (.int .i64) .unit)))))) (.pr .bool .unit))))))))) (.st (.pr (.rw 40 (.st (.pr (.int .i64) (.pr .str (.pr .str (.pr (.int .i64) (.pr (.int .i64) .unit))))))) (.pr (.st (.pr (.int .i64) (.pr (.int .i64) (.pr (.int .i64) (.pr .str .unit))))) (.pr .bool (.pr (.mr 40 (.st (.pr (.int .i64) (.pr .str (.pr .str (.pr (.int .i64) (.pr (.int .i64) .unit))))))) (.pr (.st (.pr (.int .i64) (.pr .str (.pr .str (.pr (.int .i64) (.pr (.int .i64) .unit)))))) (.pr (.rw 5 (.int .u8)) (.pr (.st (.pr (.int .i64) (.pr .str (.pr .str (.pr (.int .i64) (.pr (.int .i64) .unit)))))) (.pr .bool .unit))))))))) [], .val .str, .val (.int .i64)] [] [] (a0, a1, a2) = folioref04_lexer__directive a0 a1 a2 := by kernel_rfl
noncomputable def folioref04_lexer__directiveEnt : Nat × Go.Lf.Entry := (32, ⟨[.obj 52 (.st (.pr (.rw 40 (.st (.pr (.int .i64) (.pr .str (.pr .str (.pr (.int .i64) (.pr (.int .i64) .unit))))))) (.pr (.st (.pr (.int .i64) (.pr (.int .i64) (.pr (.int .i64) (.pr .str .unit))))) (.pr .bool (.pr (.mr 40 (.st (.pr (.int .i64) (.pr .str (.pr .str (.pr (.int .i64) (.pr (.int .i64) .unit))))))) (.pr (.st (.pr (.int .i64) (.pr .str (.pr .str (.pr (.int .i64) (.pr (.int .i64) .unit)))))) (.pr (.rw 5 (.int .u8)) (.pr (.st (.pr (.int .i64) (.pr .str (.pr .str (.pr (.int .i64) (.pr (.int .i64) .unit)))))) (.pr .bool .unit))))))))) (.st (.pr (.rw 40 (.st (.pr (.int .i64) (.pr .str (.pr .str (.pr (.int .i64) (.pr (.int .i64) .unit))))))) (.pr (.st (.pr (.int .i64) (.pr (.int .i64) (.pr (.int .i64) (.pr .str .unit))))) (.pr .bool (.pr (.mr 40 (.st (.pr (.int .i64) (.pr .str (.pr .str (.pr (.int .i64) (.pr (.int .i64) .unit))))))) (.pr (.st (.pr (.int .i64) (.pr .str (.pr .str (.pr (.int .i64) (.pr (.int .i64) .unit)))))) (.pr (.rw 5 (.int .u8)) (.pr (.st (.pr (.int .i64) (.pr .str (.pr .str (.pr (.int .i64) (.pr (.int .i64) .unit)))))) (.pr .bool .unit))))))))) [], .val .str, .val (.int .i64)], [], fun z => folioref04_lexer__directive z.1 z.2.1 z.2.2⟩)
theorem folioref04_lexer__directive_ok : Go.Lf.EntryOk Go.Proofs.Tryz.prog GG 32 folioref04_lexer__directiveEnt.2 :=
  Go.Lf.fn_ok (c := folioref04_lexer__directiveCtx) (code := folioref04_lexer__directiveCode) (an := folioref04_lexer__directiveAnn) (slots := []) (fn := Go.Proofs.Tryz.f32) (by kernel_rfl) ⟨Tys_ok, Go.Lf.FnsOk.look (.con folioref04_lexer__end_ok (.con folioref04_lexer__fail_ok (.con folioref04_strip_ok (.con folioref04_blank_ok (.con folioref04_letters_ok .nil)))))⟩ (by kernel_rfl) (by kernel_rfl) (by kernel_rfl) (by kernel_rfl) (by kernel_rfl) (Nat.le_of_ble_eq_true rfl) (by simp [Go.Lf.Ty.top]) (by simp [Go.Lf.Ty.top]) fun z r h => (folioref04_lexer__directive_eq z.1 z.2.1 z.2.2).trans h
noncomputable def folioref04_lexer__pauseCtx : Go.Lf.Ctx := ⟨31, Tys, [], [], [], []⟩
noncomputable def folioref04_lexer__pauseCode : Go.Code := (Go.Proofs.Tryz.f60.body).getD .skip
def folioref04_lexer__pauseAnn : Go.Lf.Ann := (.seq (.join (.one .nrm ⟨[2, 1], [(0, 0, [], 0)], [(24, .bool)], [(0, 52, (.st (.pr (.rw 40 (.st (.pr (.int .i64) (.pr .str (.pr .str (.pr (.int .i64) (.pr (.int .i64) .unit))))))) (.pr (.st (.pr (.int .i64) (.pr (.int .i64) (.pr (.int .i64) (.pr .str .unit))))) (.pr .bool (.pr (.mr 40 (.st (.pr (.int .i64) (.pr .str (.pr .str (.pr (.int .i64) (.pr (.int .i64) .unit))))))) (.pr (.st (.pr (.int .i64) (.pr .str (.pr .str (.pr (.int .i64) (.pr (.int .i64) .unit)))))) (.pr (.rw 5 (.int .u8)) (.pr (.st (.pr (.int .i64) (.pr .str (.pr .str (.pr (.int .i64) (.pr (.int .i64) .unit)))))) (.pr .bool .unit))))))))))]⟩) .no) .no)
noncomputable def folioref04_lexer__pause (a0 : (List ((Int) × ((List (UInt8)) × ((List (UInt8)) × ((Int) × ((Int) × (Unit))))))) × (((Int) × ((Int) × ((Int) × ((List (UInt8)) × (Unit))))) × ((Bool) × ((List ((Int) × ((List (UInt8)) × ((List (UInt8)) × ((Int) × ((Int) × (Unit))))))) × (((Int) × ((List (UInt8)) × ((List (UInt8)) × ((Int) × ((Int) × (Unit)))))) × ((List (Int)) × (((Int) × ((List (UInt8)) × ((List (UInt8)) × ((Int) × ((Int) × (Unit)))))) × ((Bool) × (Unit))))))))) (a1 : Int) (a2 : Int) : Option ((List ((Int) × ((List (UInt8)) × ((List (UInt8)) × ((Int) × ((Int) × (Unit))))))) × (((Int) × ((Int) × ((Int) × ((List (UInt8)) × (Unit))))) × ((Bool) × ((List ((Int) × ((List (UInt8)) × ((List (UInt8)) × ((Int) × ((Int) × (Unit))))))) × (((Int) × ((List (UInt8)) × ((List (UInt8)) × ((Int) × ((Int) × (Unit)))))) × ((List (Int)) × (((Int) × ((List (UInt8)) × ((List (UInt8)) × ((Int) × ((Int) × (Unit)))))) × ((Bool) × (Unit))))))))) :=
 (bif a0.2.2.1 then bif (!a0.2.2.2.2.2.2.2.1) then some ((decide ((a0.2.2.2.2.2.2.1.1 : Int) = (0 : Int))), a0)
   else some (false, a0)
   else some (false, a0)).bind fun r1 =>
 bif r1.1 then some (r1.2.1, (r1.2.2.1, (r1.2.2.2.1, (r1.2.2.2.2.1, (r1.2.2.2.2.2.1, (r1.2.2.2.2.2.2.1, (((6 : Int), (([] : List (UInt8)), (([] : List (UInt8)), (a1, (a2, ()))))), r1.2.2.2.2.2.2.2.2)))))))
 else some r1.2
theorem folioref04_lexer__pause_eq (a0 : (List ((Int) × ((List (UInt8)) × ((List (UInt8)) × ((Int) × ((Int) × (Unit))))))) × (((Int) × ((Int) × ((Int) × ((List (UInt8)) × (Unit))))) × ((Bool) × ((List ((Int) × ((List (UInt8)) × ((List (UInt8)) × ((Int) × ((Int) × (Unit))))))) × (((Int) × ((List (UInt8)) × ((List (UInt8)) × ((Int) × ((Int) × (Unit)))))) × ((List (Int)) × (((Int) × ((List (UInt8)) × ((List (UInt8)) × ((Int) × ((Int) × (Unit)))))) × ((Bool) × (Unit))))))))) (a1 : Int) (a2 : Int) : Go.Lf.fnE folioref04_lexer__pauseCtx folioref04_lexer__pauseCode folioref04_lexer__pauseAnn [.obj 52 (.st (.pr (.rw 40 (.st (.pr (.int .i64) (.pr .str (.pr .str (.pr (.int .i64) (.pr (.int .i64) .unit))))))) (.pr (.st (.pr (.int .i64) (.pr (.int .i64) (.pr (.int .i64) (.pr .str .unit))))) (.pr .bool (.pr (.mr 40 (.st (.pr (.int .i64) (.pr .str (.pr .str (.pr (.int .i64) (.pr (.int .i64) .unit))))))) (.pr (.st (.pr (.int .i64) (.pr .str (.pr .str (.pr (.int .i64) (.pr (.int .i64) .unit)))))) (.pr (.rw 5 (.int .u8)) (.pr (.st (.pr (.int .i64) (.pr .str (.pr .str (.pr (.int .i64) (.pr (.int .i64) .unit)))))) (.pr .bool .unit))))))))) (.st (.pr (.rw 40 (.st (.pr (.int .i64) (.pr .str (.pr .str (.pr (.int .i64) (.pr (.int .i64) .unit))))))) (.pr (.st (.pr (.int .i64) (.pr (.int .i64) (.pr (.int .i64) (.pr .str .unit))))) (.pr .bool (.pr (.mr 40 (.st (.pr (.int .i64) (.pr .str (.pr .str (.pr (.int .i64) (.pr (.int .i64) .unit))))))) (.pr (.st (.pr (.int .i64) (.pr .str (.pr .str (.pr (.int .i64) (.pr (.int .i64) .unit)))))) (.pr (.rw 5 (.int .u8)) (.pr (.st (.pr (.int .i64) (.pr .str (.pr .str (.pr (.int .i64) (.pr (.int .i64) .unit)))))) (.pr .bool .unit))))))))) [], .val (.int .i64), .val (.int .i64)] [] [] (a0, a1, a2) = folioref04_lexer__pause a0 a1 a2 := by kernel_rfl
noncomputable def folioref04_lexer__pauseEnt : Nat × Go.Lf.Entry := (60, ⟨[.obj 52 (.st (.pr (.rw 40 (.st (.pr (.int .i64) (.pr .str (.pr .str (.pr (.int .i64) (.pr (.int .i64) .unit))))))) (.pr (.st (.pr (.int .i64) (.pr (.int .i64) (.pr (.int .i64) (.pr .str .unit))))) (.pr .bool (.pr (.mr 40 (.st (.pr (.int .i64) (.pr .str (.pr .str (.pr (.int .i64) (.pr (.int .i64) .unit))))))) (.pr (.st (.pr (.int .i64) (.pr .str (.pr .str (.pr (.int .i64) (.pr (.int .i64) .unit)))))) (.pr (.rw 5 (.int .u8)) (.pr (.st (.pr (.int .i64) (.pr .str (.pr .str (.pr (.int .i64) (.pr (.int .i64) .unit)))))) (.pr .bool .unit))))))))) (.st (.pr (.rw 40 (.st (.pr (.int .i64) (.pr .str (.pr .str (.pr (.int .i64) (.pr (.int .i64) .unit))))))) (.pr (.st (.pr (.int .i64) (.pr (.int .i64) (.pr (.int .i64) (.pr .str .unit))))) (.pr .bool (.pr (.mr 40 (.st (.pr (.int .i64) (.pr .str (.pr .str (.pr (.int .i64) (.pr (.int .i64) .unit))))))) (.pr (.st (.pr (.int .i64) (.pr .str (.pr .str (.pr (.int .i64) (.pr (.int .i64) .unit)))))) (.pr (.rw 5 (.int .u8)) (.pr (.st (.pr (.int .i64) (.pr .str (.pr .str (.pr (.int .i64) (.pr (.int .i64) .unit)))))) (.pr .bool .unit))))))))) [], .val (.int .i64), .val (.int .i64)], [], fun z => folioref04_lexer__pause z.1 z.2.1 z.2.2⟩)
theorem folioref04_lexer__pause_ok : Go.Lf.EntryOk Go.Proofs.Tryz.prog GG 60 folioref04_lexer__pauseEnt.2 :=
  Go.Lf.fn_ok (c := folioref04_lexer__pauseCtx) (code := folioref04_lexer__pauseCode) (an := folioref04_lexer__pauseAnn) (slots := []) (fn := Go.Proofs.Tryz.f60) (by kernel_rfl) ⟨Tys_ok, Go.Lf.FnsOk.look .nil⟩ (by kernel_rfl) (by kernel_rfl) (by kernel_rfl) (by kernel_rfl) (by kernel_rfl) (Nat.le_of_ble_eq_true rfl) (by simp [Go.Lf.Ty.top]) (by simp [Go.Lf.Ty.top]) fun z r h => (folioref04_lexer__pause_eq z.1 z.2.1 z.2.2).trans h
noncomputable def folioref04_lexer__beginCtx : Go.Lf.Ctx := ⟨17, Tys, [], [], [], []⟩
noncomputable def folioref04_lexer__beginCode : Go.Code := (Go.Proofs.Tryz.f61.body).getD .skip
def folioref04_lexer__beginAnn : Go.Lf.Ann := .no
noncomputable def folioref04_lexer__begin (a0 : (List ((Int) × ((List (UInt8)) × ((List (UInt8)) × ((Int) × ((Int) × (Unit))))))) × (((Int) × ((Int) × ((Int) × ((List (UInt8)) × (Unit))))) × ((Bool) × ((List ((Int) × ((List (UInt8)) × ((List (UInt8)) × ((Int) × ((Int) × (Unit))))))) × (((Int) × ((List (UInt8)) × ((List (UInt8)) × ((Int) × ((Int) × (Unit)))))) × ((List (Int)) × (((Int) × ((List (UInt8)) × ((List (UInt8)) × ((Int) × ((Int) × (Unit)))))) × ((Bool) × (Unit))))))))) : Option ((List ((Int) × ((List (UInt8)) × ((List (UInt8)) × ((Int) × ((Int) × (Unit))))))) × (((Int) × ((Int) × ((Int) × ((List (UInt8)) × (Unit))))) × ((Bool) × ((List ((Int) × ((List (UInt8)) × ((List (UInt8)) × ((Int) × ((Int) × (Unit))))))) × (((Int) × ((List (UInt8)) × ((List (UInt8)) × ((Int) × ((Int) × (Unit)))))) × ((List (Int)) × (((Int) × ((List (UInt8)) × ((List (UInt8)) × ((Int) × ((Int) × (Unit)))))) × ((Bool) × (Unit))))))))) :=
 bif (!a0.2.2.1) then some (a0.1, (a0.2.1, (true, (a0.2.2.2.1, (a0.2.2.2.2.1, (a0.2.2.2.2.2.1, (((0 : Int), (([] : List (UInt8)), (([] : List (UInt8)), ((0 : Int), ((0 : Int), ()))))), (false, a0.2.2.2.2.2.2.2.2))))))))
 else some a0
theorem folioref04_lexer__begin_eq (a0 : (List ((Int) × ((List (UInt8)) × ((List (UInt8)) × ((Int) × ((Int) × (Unit))))))) × (((Int) × ((Int) × ((Int) × ((List (UInt8)) × (Unit))))) × ((Bool) × ((List ((Int) × ((List (UInt8)) × ((List (UInt8)) × ((Int) × ((Int) × (Unit))))))) × (((Int) × ((List (UInt8)) × ((List (UInt8)) × ((Int) × ((Int) × (Unit)))))) × ((List (Int)) × (((Int) × ((List (UInt8)) × ((List (UInt8)) × ((Int) × ((Int) × (Unit)))))) × ((Bool) × (Unit))))))))) : Go.Lf.fnE folioref04_lexer__beginCtx folioref04_lexer__beginCode folioref04_lexer__beginAnn [.obj 52 (.st (.pr (.rw 40 (.st (.pr (.int .i64) (.pr .str (.pr .str (.pr (.int .i64) (.pr (.int .i64) .unit))))))) (.pr (.st (.pr (.int .i64) (.pr (.int .i64) (.pr (.int .i64) (.pr .str .unit))))) (.pr .bool (.pr (.mr 40 (.st (.pr (.int .i64) (.pr .str (.pr .str (.pr (.int .i64) (.pr (.int .i64) .unit))))))) (.pr (.st (.pr (.int .i64) (.pr .str (.pr .str (.pr (.int .i64) (.pr (.int .i64) .unit)))))) (.pr (.rw 5 (.int .u8)) (.pr (.st (.pr (.int .i64) (.pr .str (.pr .str (.pr (.int .i64) (.pr (.int .i64) .unit)))))) (.pr .bool .unit))))))))) (.st (.pr (.rw 40 (.st (.pr (.int .i64) (.pr .str (.pr .str (.pr (.int .i64) (.pr (.int .i64) .unit))))))) (.pr (.st (.pr (.int .i64) (.pr (.int .i64) (.pr (.int .i64) (.pr .str .unit))))) (.pr .bool (.pr (.mr 40 (.st (.pr (.int .i64) (.pr .str (.pr .str (.pr (.int .i64) (.pr (.int .i64) .unit))))))) (.pr (.st (.pr (.int .i64) (.pr .str (.pr .str (.pr (.int .i64) (.pr (.int .i64) .unit)))))) (.pr (.rw 5 (.int .u8)) (.pr (.st (.pr (.int .i64) (.pr .str (.pr .str (.pr (.int .i64) (.pr (.int .i64) .unit)))))) (.pr .bool .unit))))))))) []] [] [] (a0) = folioref04_lexer__begin a0 := by kernel_rfl
noncomputable def folioref04_lexer__beginEnt : Nat × Go.Lf.Entry := (61, ⟨[.obj 52 (.st (.pr (.rw 40 (.st (.pr (.int .i64) (.pr .str (.pr .str (.pr (.int .i64) (.pr (.int .i64) .unit))))))) (.pr (.st (.pr (.int .i64) (.pr (.int .i64) (.pr (.int .i64) (.pr .str .unit))))) (.pr .bool (.pr (.mr 40 (.st (.pr (.int .i64) (.pr .str (.pr .str (.pr (.int .i64) (.pr (.int .i64) .unit))))))) (.pr (.st (.pr (.int .i64) (.pr .str (.pr .str (.pr (.int .i64) (.pr (.int .i64) .unit)))))) (.pr (.rw 5 (.int .u8)) (.pr (.st (.pr (.int .i64) (.pr .str (.pr .str (.pr (.int .i64) (.pr (.int .i64) .unit)))))) (.pr .bool .unit))))))))) (.st (.pr (.rw 40 (.st (.pr (.int .i64) (.pr .str (.pr .str (.pr (.int .i64) (.pr (.int .i64) .unit))))))) (.pr (.st (.pr (.int .i64) (.pr (.int .i64) (.pr (.int .i64) (.pr .str .unit))))) (.pr .bool (.pr (.mr 40 (.st (.pr (.int .i64) (.pr .str (.pr .str (.pr (.int .i64) (.pr (.int .i64) .unit))))))) (.pr (.st (.pr (.int .i64) (.pr .str (.pr .str (.pr (.int .i64) (.pr (.int .i64) .unit)))))) (.pr (.rw 5 (.int .u8)) (.pr (.st (.pr (.int .i64) (.pr .str (.pr .str (.pr (.int .i64) (.pr (.int .i64) .unit)))))) (.pr .bool .unit))))))))) []], [], fun z => folioref04_lexer__begin z⟩)
theorem folioref04_lexer__begin_ok : Go.Lf.EntryOk Go.Proofs.Tryz.prog GG 61 folioref04_lexer__beginEnt.2 :=
  Go.Lf.fn_ok (c := folioref04_lexer__beginCtx) (code := folioref04_lexer__beginCode) (an := folioref04_lexer__beginAnn) (slots := []) (fn := Go.Proofs.Tryz.f61) (by kernel_rfl) ⟨Tys_ok, Go.Lf.FnsOk.look .nil⟩ (by kernel_rfl) (by kernel_rfl) (by kernel_rfl) (by kernel_rfl) (by kernel_rfl) (Nat.le_of_ble_eq_true rfl) (by simp [Go.Lf.Ty.top]) (by simp [Go.Lf.Ty.top]) fun z r h => (folioref04_lexer__begin_eq z).trans h
noncomputable def folioref04_specialCtx : Go.Lf.Ctx := ⟨25, Tys, [], [], [], []⟩
noncomputable def folioref04_specialCode : Go.Code := (Go.Proofs.Tryz.f62.body).getD .skip
def folioref04_specialAnn : Go.Lf.Ann := (.seq .no (.seq (.join (.one .nrm ⟨[], [], [(2, .bool)], []⟩) .no) .no))
noncomputable def folioref04_special (a0 : Int) : Option (Bool) :=
 (bif (!(decide ((a0 : Int) = (92 : Int)))) then bif (!(decide ((a0 : Int) = (123 : Int)))) then bif (!(decide ((a0 : Int) = (125 : Int)))) then bif (!(decide ((a0 : Int) = (124 : Int)))) then bif (!(decide ((a0 : Int) = (46 : Int)))) then some (decide ((a0 : Int) = (35 : Int)))
   else some true
   else some true
   else some true
   else some true
   else some true).bind fun r1 =>
 some r1
theorem folioref04_special_eq (a0 : Int) : Go.Lf.fnE folioref04_specialCtx folioref04_specialCode folioref04_specialAnn [.val (.int .u8)] [.bool] [.tmp 2] (a0) = folioref04_special a0 := by kernel_rfl
noncomputable def folioref04_specialEnt : Nat × Go.Lf.Entry := (62, ⟨[.val (.int .u8)], [.bool], fun z => folioref04_special z⟩)
theorem folioref04_special_ok : Go.Lf.EntryOk Go.Proofs.Tryz.prog GG 62 folioref04_specialEnt.2 :=
  Go.Lf.fn_ok (c := folioref04_specialCtx) (code := folioref04_specialCode) (an := folioref04_specialAnn) (slots := [.tmp 2]) (fn := Go.Proofs.Tryz.f62) (by kernel_rfl) ⟨Tys_ok, Go.Lf.FnsOk.look .nil⟩ (by kernel_rfl) (by kernel_rfl) (by kernel_rfl) (by kernel_rfl) (by kernel_rfl) (Nat.le_of_ble_eq_true rfl) (by simp [Go.Lf.Ty.top]) (by simp [Go.Lf.Ty.top]) fun z r h => (folioref04_special_eq z).trans h
noncomputable def folioref04_behindCtx : Go.Lf.Ctx := ⟨32, Tys, [folioref02_CharsEnt], [], [], []⟩
noncomputable def folioref04_behindCode : Go.Code := (Go.Proofs.Tryz.f63.body).getD .skip
def folioref04_behindAnn : Go.Lf.Ann := (.seq .no (.seq .no (.seq (.seq .no (.loop ⟨[5, 1, 0], [], [(6, (.int .i64))], []⟩ (.more (.ext 0) ⟨[], [], [], []⟩ (.one .ret ⟨[], [], [(4, .str)], []⟩)) .no)) .no)))
noncomputable def folioref04_behind (a0 : List (UInt8)) (a1 : Int) : Option (List (UInt8)) :=
 ((Go.Fn.folioref02_Chars a0)).bind fun r1 =>
 (Go.Lf.loopC (σ := Int) (κ := (Unit) ⊕ (List (UInt8))) (fun z2 =>
     bif (decide (z2 < (((List.length r1) : Nat) : Int))) then ((Go.Lf.idx r1 z2)).bind fun r3 =>
     bif (decide ((r3.2.1 : Int) = a1)) then ((Go.Lf.idx r1 z2)).bind fun r4 =>
     ((Go.Lf.sub a0 a1 (Go.IntKind.wrap .i64 (a1 + r4.2.2.1)))).bind fun r5 =>
     some (.inr (.inr r5))
     else some (.inl (Go.IntKind.wrap .i64 (z2 + (1 : Int))))
     else some (.inr (.inl ()))) (0 : Int) : Option ((Unit) ⊕ (List (UInt8)))).bind fun r6 =>
 Go.Lf.onSum r6 (fun a7 =>
 some ([] : List (UInt8))) (fun b8 =>
 some b8)
theorem folioref04_behind_eq (a0 : List (UInt8)) (a1 : Int) : Go.Lf.fnE folioref04_behindCtx folioref04_behindCode folioref04_behindAnn [.val .str, .val (.int .i64)] [.str] [.tmp 4] (a0, a1) = folioref04_behind a0 a1 := by kernel_rfl
noncomputable def folioref04_behindEnt : Nat × Go.Lf.Entry := (63, ⟨[.val .str, .val (.int .i64)], [.str], fun z => folioref04_behind z.1 z.2⟩)
theorem folioref04_behind_ok : Go.Lf.EntryOk Go.Proofs.Tryz.prog GG 63 folioref04_behindEnt.2 :=
  Go.Lf.fn_ok (c := folioref04_behindCtx) (code := folioref04_behindCode) (an := folioref04_behindAnn) (slots := [.tmp 4]) (fn := Go.Proofs.Tryz.f63) (by kernel_rfl) ⟨Tys_ok, Go.Lf.FnsOk.look (.con folioref02_Chars_ok .nil)⟩ (by kernel_rfl) (by kernel_rfl) (by kernel_rfl) (by kernel_rfl) (by kernel_rfl) (Nat.le_of_ble_eq_true rfl) (by simp [Go.Lf.Ty.top]) (by simp [Go.Lf.Ty.top]) fun z r h => (folioref04_behind_eq z.1 z.2).trans h
noncomputable def folioref04_lexer__putCtx : Go.Lf.Ctx := ⟨32, Tys, [], [24], [], [(24, (.rw 5 (.int .u8)))]⟩
noncomputable def folioref04_lexer__putCode : Go.Code := (Go.Proofs.Tryz.f65.body).getD .skip
def folioref04_lexer__putAnn : Go.Lf.Ann := (.seq (.join (.one .nrm ⟨[1], [(0, 0, [], 0)], [], [(0, 52, (.st (.pr (.rw 40 (.st (.pr (.int .i64) (.pr .str (.pr .str (.pr (.int .i64) (.pr (.int .i64) .unit))))))) (.pr (.st (.pr (.int .i64) (.pr (.int .i64) (.pr (.int .i64) (.pr .str .unit))))) (.pr .bool (.pr (.mr 40 (.st (.pr (.int .i64) (.pr .str (.pr .str (.pr (.int .i64) (.pr (.int .i64) .unit))))))) (.pr (.st (.pr (.int .i64) (.pr .str (.pr .str (.pr (.int .i64) (.pr (.int .i64) .unit)))))) (.pr (.rw 5 (.int .u8)) (.pr (.st (.pr (.int .i64) (.pr .str (.pr .str (.pr (.int .i64) (.pr (.int .i64) .unit)))))) (.pr .bool .unit))))))))))]⟩) .no) .no)
noncomputable def folioref04_lexer__put (a0 : (List ((Int) × ((List (UInt8)) × ((List (UInt8)) × ((Int) × ((Int) × (Unit))))))) × (((Int) × ((Int) × ((Int) × ((List (UInt8)) × (Unit))))) × ((Bool) × ((List ((Int) × ((List (UInt8)) × ((List (UInt8)) × ((Int) × ((Int) × (Unit))))))) × (((Int) × ((List (UInt8)) × ((List (UInt8)) × ((Int) × ((Int) × (Unit)))))) × ((List (Int)) × (((Int) × ((List (UInt8)) × ((List (UInt8)) × ((Int) × ((Int) × (Unit)))))) × ((Bool) × (Unit))))))))) (a1 : List (UInt8)) (a2 : Int) (a3 : Int) : Option ((List ((Int) × ((List (UInt8)) × ((List (UInt8)) × ((Int) × ((Int) × (Unit))))))) × (((Int) × ((Int) × ((Int) × ((List (UInt8)) × (Unit))))) × ((Bool) × ((List ((Int) × ((List (UInt8)) × ((List (UInt8)) × ((Int) × ((Int) × (Unit))))))) × (((Int) × ((List (UInt8)) × ((List (UInt8)) × ((Int) × ((Int) × (Unit)))))) × ((List (Int)) × (((Int) × ((List (UInt8)) × ((List (UInt8)) × ((Int) × ((Int) × (Unit)))))) × ((Bool) × (Unit))))))))) :=
 (bif (decide ((a0.2.2.2.2.1.1 : Int) ≠ (6 : Int))) then some (a0.1, (a0.2.1, (a0.2.2.1, (a0.2.2.2.1, (((6 : Int), (([] : List (UInt8)), (([] : List (UInt8)), (a2, (a3, ()))))), a0.2.2.2.2.2)))))
   else some a0).bind fun r1 =>
 ((Go.Lf.app (1 : Nat) r1.2.2.2.2.2.1 (Go.Lf.bytesI a1))).bind fun r2 =>
 some (r1.1, (r1.2.1, (r1.2.2.1, (r1.2.2.2.1, (r1.2.2.2.2.1, (r2, (r1.2.2.2.2.2.2.1, (false, r1.2.2.2.2.2.2.2.2))))))))
theorem folioref04_lexer__put_eq (a0 : (List ((Int) × ((List (UInt8)) × ((List (UInt8)) × ((Int) × ((Int) × (Unit))))))) × (((Int) × ((Int) × ((Int) × ((List (UInt8)) × (Unit))))) × ((Bool) × ((List ((Int) × ((List (UInt8)) × ((List (UInt8)) × ((Int) × ((Int) × (Unit))))))) × (((Int) × ((List (UInt8)) × ((List (UInt8)) × ((Int) × ((Int) × (Unit)))))) × ((List (Int)) × (((Int) × ((List (UInt8)) × ((List (UInt8)) × ((Int) × ((Int) × (Unit)))))) × ((Bool) × (Unit))))))))) (a1 : List (UInt8)) (a2 : Int) (a3 : Int) : Go.Lf.fnE folioref04_lexer__putCtx folioref04_lexer__putCode folioref04_lexer__putAnn [.obj 52 (.st (.pr (.rw 40 (.st (.pr (.int .i64) (.pr .str (.pr .str (.pr (.int .i64) (.pr (.int .i64) .unit))))))) (.pr (.st (.pr (.int .i64) (.pr (.int .i64) (.pr (.int .i64) (.pr .str .unit))))) (.pr .bool (.pr (.mr 40 (.st (.pr (.int .i64) (.pr .str (.pr .str (.pr (.int .i64) (.pr (.int .i64) .unit))))))) (.pr (.st (.pr (.int .i64) (.pr .str (.pr .str (.pr (.int .i64) (.pr (.int .i64) .unit)))))) (.pr (.rw 5 (.int .u8)) (.pr (.st (.pr (.int .i64) (.pr .str (.pr .str (.pr (.int .i64) (.pr (.int .i64) .unit)))))) (.pr .bool .unit))))))))) (.st (.pr (.rw 40 (.st (.pr (.int .i64) (.pr .str (.pr .str (.pr (.int .i64) (.pr (.int .i64) .unit))))))) (.pr (.st (.pr (.int .i64) (.pr (.int .i64) (.pr (.int .i64) (.pr .str .unit))))) (.pr .bool (.pr (.mr 40 (.st (.pr (.int .i64) (.pr .str (.pr .str (.pr (.int .i64) (.pr (.int .i64) .unit))))))) (.pr (.st (.pr (.int .i64) (.pr .str (.pr .str (.pr (.int .i64) (.pr (.int .i64) .unit)))))) (.pr (.rw 5 (.int .u8)) (.pr (.st (.pr (.int .i64) (.pr .str (.pr .str (.pr (.int .i64) (.pr (.int .i64) .unit)))))) (.pr .bool .unit))))))))) [], .val .str, .val (.int .i64), .val (.int .i64)] [] [] (a0, a1, a2, a3) = folioref04_lexer__put a0 a1 a2 a3 := by kernel_rfl
noncomputable def folioref04_lexer__putEnt : Nat × Go.Lf.Entry := (65, ⟨[.obj 52 (.st (.pr (.rw 40 (.st (.pr (.int .i64) (.pr .str (.pr .str (.pr (.int .i64) (.pr (.int .i64) .unit))))))) (.pr (.st (.pr (.int .i64) (.pr (.int .i64) (.pr (.int .i64) (.pr .str .unit))))) (.pr .bool (.pr (.mr 40 (.st (.pr (.int .i64) (.pr .str (.pr .str (.pr (.int .i64) (.pr (.int .i64) .unit))))))) (.pr (.st (.pr (.int .i64) (.pr .str (.pr .str (.pr (.int .i64) (.pr (.int .i64) .unit)))))) (.pr (.rw 5 (.int .u8)) (.pr (.st (.pr (.int .i64) (.pr .str (.pr .str (.pr (.int .i64) (.pr (.int .i64) .unit)))))) (.pr .bool .unit))))))))) (.st (.pr (.rw 40 (.st (.pr (.int .i64) (.pr .str (.pr .str (.pr (.int .i64) (.pr (.int .i64) .unit))))))) (.pr (.st (.pr (.int .i64) (.pr (.int .i64) (.pr (.int .i64) (.pr .str .unit))))) (.pr .bool (.pr (.mr 40 (.st (.pr (.int .i64) (.pr .str (.pr .str (.pr (.int .i64) (.pr (.int .i64) .unit))))))) (.pr (.st (.pr (.int .i64) (.pr .str (.pr .str (.pr (.int .i64) (.pr (.int .i64) .unit)))))) (.pr (.rw 5 (.int .u8)) (.pr (.st (.pr (.int .i64) (.pr .str (.pr .str (.pr (.int .i64) (.pr (.int .i64) .unit)))))) (.pr .bool .unit))))))))) [], .val .str, .val (.int .i64), .val (.int .i64)], [], fun z => folioref04_lexer__put z.1 z.2.1 z.2.2.1 z.2.2.2⟩)
theorem folioref04_lexer__put_ok : Go.Lf.EntryOk Go.Proofs.Tryz.prog GG 65 folioref04_lexer__putEnt.2 :=
  Go.Lf.fn_ok (c := folioref04_lexer__putCtx) (code := folioref04_lexer__putCode) (an := folioref04_lexer__putAnn) (slots := []) (fn := Go.Proofs.Tryz.f65) (by kernel_rfl) ⟨Tys_ok, Go.Lf.FnsOk.look .nil⟩ (by kernel_rfl) (by kernel_rfl) (by kernel_rfl) (by kernel_rfl) (by kernel_rfl) (Nat.le_of_ble_eq_true rfl) (by simp [Go.Lf.Ty.top]) (by simp [Go.Lf.Ty.top]) fun z r h => (folioref04_lexer__put_eq z.1 z.2.1 z.2.2.1 z.2.2.2).trans h
noncomputable def folioref04_lexer__restCtx : Go.Lf.Ctx := ⟨24, Tys, [folioref04_lexer__putEnt], [], [], []⟩
noncomputable def folioref04_lexer__restCode : Go.Code := (Go.Proofs.Tryz.f64.body).getD .skip
def folioref04_lexer__restAnn : Go.Lf.Ann := (.seq (.join (.one .nrm ⟨[], [(0, 0, [], 0)], [], [(0, 52, (.st (.pr (.rw 40 (.st (.pr (.int .i64) (.pr .str (.pr .str (.pr (.int .i64) (.pr (.int .i64) .unit))))))) (.pr (.st (.pr (.int .i64) (.pr (.int .i64) (.pr (.int .i64) (.pr .str .unit))))) (.pr .bool (.pr (.mr 40 (.st (.pr (.int .i64) (.pr .str (.pr .str (.pr (.int .i64) (.pr (.int .i64) .unit))))))) (.pr (.st (.pr (.int .i64) (.pr .str (.pr .str (.pr (.int .i64) (.pr (.int .i64) .unit)))))) (.pr (.rw 5 (.int .u8)) (.pr (.st (.pr (.int .i64) (.pr .str (.pr .str (.pr (.int .i64) (.pr (.int .i64) .unit)))))) (.pr .bool .unit))))))))))]⟩) (.seq .no (.cnd (.draw 11) .no))) .no)
noncomputable def folioref04_lexer__rest (a0 : (List ((Int) × ((List (UInt8)) × ((List (UInt8)) × ((Int) × ((Int) × (Unit))))))) × (((Int) × ((Int) × ((Int) × ((List (UInt8)) × (Unit))))) × ((Bool) × ((List ((Int) × ((List (UInt8)) × ((List (UInt8)) × ((Int) × ((Int) × (Unit))))))) × (((Int) × ((List (UInt8)) × ((List (UInt8)) × ((Int) × ((Int) × (Unit)))))) × ((List (Int)) × (((Int) × ((List (UInt8)) × ((List (UInt8)) × ((Int) × ((Int) × (Unit)))))) × ((Bool) × (Unit))))))))) : Option ((List ((Int) × ((List (UInt8)) × ((List (UInt8)) × ((Int) × ((Int) × (Unit))))))) × (((Int) × ((Int) × ((Int) × ((List (UInt8)) × (Unit))))) × ((Bool) × ((List ((Int) × ((List (UInt8)) × ((List (UInt8)) × ((Int) × ((Int) × (Unit))))))) × (((Int) × ((List (UInt8)) × ((List (UInt8)) × ((Int) × ((Int) × (Unit)))))) × ((List (Int)) × (((Int) × ((List (UInt8)) × ((List (UInt8)) × ((Int) × ((Int) × (Unit)))))) × ((Bool) × (Unit))))))))) :=
 (bif (decide ((a0.2.2.2.2.2.2.1.1 : Int) = (6 : Int))) then ((Go.Fn.folioref04_lexer__put a0 ((32 : UInt8) :: ([] : List (UInt8))) a0.2.2.2.2.2.2.1.2.2.2.1 a0.2.2.2.2.2.2.1.2.2.2.2.1)).bind fun r1 =>
   some r1
   else some a0).bind fun r2 =>
 some (r2.1, (r2.2.1, (r2.2.2.1, (r2.2.2.2.1, (r2.2.2.2.2.1, (r2.2.2.2.2.2.1, (((0 : Int), (([] : List (UInt8)), (([] : List (UInt8)), ((0 : Int), ((0 : Int), ()))))), r2.2.2.2.2.2.2.2)))))))
theorem folioref04_lexer__rest_eq (a0 : (List ((Int) × ((List (UInt8)) × ((List (UInt8)) × ((Int) × ((Int) × (Unit))))))) × (((Int) × ((Int) × ((Int) × ((List (UInt8)) × (Unit))))) × ((Bool) × ((List ((Int) × ((List (UInt8)) × ((List (UInt8)) × ((Int) × ((Int) × (Unit))))))) × (((Int) × ((List (UInt8)) × ((List (UInt8)) × ((Int) × ((Int) × (Unit)))))) × ((List (Int)) × (((Int) × ((List (UInt8)) × ((List (UInt8)) × ((Int) × ((Int) × (Unit)))))) × ((Bool) × (Unit))))))))) : Go.Lf.fnE folioref04_lexer__restCtx folioref04_lexer__restCode folioref04_lexer__restAnn [.obj 52 (.st (.pr (.rw 40 (.st (.pr (.int .i64) (.pr .str (.pr .str (.pr (.int .i64) (.pr (.int .i64) .unit))))))) (.pr (.st (.pr (.int .i64) (.pr (.int .i64) (.pr (.int .i64) (.pr .str .unit))))) (.pr .bool (.pr (.mr 40 (.st (.pr (.int .i64) (.pr .str (.pr .str (.pr (.int .i64) (.pr (.int .i64) .unit))))))) (.pr (.st (.pr (.int .i64) (.pr .str (.pr .str (.pr (.int .i64) (.pr (.int .i64) .unit)))))) (.pr (.rw 5 (.int .u8)) (.pr (.st (.pr (.int .i64) (.pr .str (.pr .str (.pr (.int .i64) (.pr (.int .i64) .unit)))))) (.pr .bool .unit))))))))) (.st (.pr (.rw 40 (.st (.pr (.int .i64) (.pr .str (.pr .str (.pr (.int .i64) (.pr (.int .i64) .unit))))))) (.pr (.st (.pr (.int .i64) (.pr (.int .i64) (.pr (.int .i64) (.pr .str .unit))))) (.pr .bool (.pr (.mr 40 (.st (.pr (.int .i64) (.pr .str (.pr .str (.pr (.int .i64) (.pr (.int .i64) .unit))))))) (.pr (.st (.pr (.int .i64) (.pr .str (.pr .str (.pr (.int .i64) (.pr (.int .i64) .unit)))))) (.pr (.rw 5 (.int .u8)) (.pr (.st (.pr (.int .i64) (.pr .str (.pr .str (.pr (.int .i64) (.pr (.int .i64) .unit)))))) (.pr .bool .unit))))))))) []] [] [] (a0) = folioref04_lexer__rest a0 := by kernel_rfl
noncomputable def folioref04_lexer__restEnt : Nat × Go.Lf.Entry := (64, ⟨[.obj 52 (.st (.pr (.rw 40 (.st (.pr (.int .i64) (.pr .str (.pr .str (.pr (.int .i64) (.pr (.int .i64) .unit))))))) (.pr (.st (.pr (.int .i64) (.pr (.int .i64) (.pr (.int .i64) (.pr .str .unit))))) (.pr .bool (.pr (.mr 40 (.st (.pr (.int .i64) (.pr .str (.pr .str (.pr (.int .i64) (.pr (.int .i64) .unit))))))) (.pr (.st (.pr (.int .i64) (.pr .str (.pr .str (.pr (.int .i64) (.pr (.int .i64) .unit)))))) (.pr (.rw 5 (.int .u8)) (.pr (.st (.pr (.int .i64) (.pr .str (.pr .str (.pr (.int .i64) (.pr (.int .i64) .unit)))))) (.pr .bool .unit))))))))) (.st (.pr (.rw 40 (.st (.pr (.int .i64) (.pr .str (.pr .str (.pr (.int .i64) (.pr (.int .i64) .unit))))))) (.pr (.st (.pr (.int .i64) (.pr (.int .i64) (.pr (.int .i64) (.pr .str .unit))))) (.pr .bool (.pr (.mr 40 (.st (.pr (.int .i64) (.pr .str (.pr .str (.pr (.int .i64) (.pr (.int .i64) .unit))))))) (.pr (.st (.pr (.int .i64) (.pr .str (.pr .str (.pr (.int .i64) (.pr (.int .i64) .unit)))))) (.pr (.rw 5 (.int .u8)) (.pr (.st (.pr (.int .i64) (.pr .str (.pr .str (.pr (.int .i64) (.pr (.int .i64) .unit)))))) (.pr .bool .unit))))))))) []], [], fun z => folioref04_lexer__rest z⟩)
theorem folioref04_lexer__rest_ok : Go.Lf.EntryOk Go.Proofs.Tryz.prog GG 64 folioref04_lexer__restEnt.2 :=
  Go.Lf.fn_ok (c := folioref04_lexer__restCtx) (code := folioref04_lexer__restCode) (an := folioref04_lexer__restAnn) (slots := []) (fn := Go.Proofs.Tryz.f64) (by kernel_rfl) ⟨Tys_ok, Go.Lf.FnsOk.look (.con folioref04_lexer__put_ok .nil)⟩ (by kernel_rfl) (by kernel_rfl) (by kernel_rfl) (by kernel_rfl) (by kernel_rfl) (Nat.le_of_ble_eq_true rfl) (by simp [Go.Lf.Ty.top]) (by simp [Go.Lf.Ty.top]) fun z r h => (folioref04_lexer__rest_eq z).trans h
noncomputable def folioref04_lexer__markCtx : Go.Lf.Ctx := ⟨21, Tys, [folioref04_lexer__flushEnt, folioref04_lexer__restEnt], [12], [], [(12, (.rw 40 (.st (.pr (.int .i64) (.pr .str (.pr .str (.pr (.int .i64) (.pr (.int .i64) .unit))))))))]⟩
noncomputable def folioref04_lexer__markCode : Go.Code := (Go.Proofs.Tryz.f66.body).getD .skip
def folioref04_lexer__markAnn : Go.Lf.Ann := (.seq .no (.seq .no (.seq .no (.seq (.soup 7) .no))))
noncomputable def folioref04_lexer__mark (a0 : (List ((Int) × ((List (UInt8)) × ((List (UInt8)) × ((Int) × ((Int) × (Unit))))))) × (((Int) × ((Int) × ((Int) × ((List (UInt8)) × (Unit))))) × ((Bool) × ((List ((Int) × ((List (UInt8)) × ((List (UInt8)) × ((Int) × ((Int) × (Unit))))))) × (((Int) × ((List (UInt8)) × ((List (UInt8)) × ((Int) × ((Int) × (Unit)))))) × ((List (Int)) × (((Int) × ((List (UInt8)) × ((List (UInt8)) × ((Int) × ((Int) × (Unit)))))) × ((Bool) × (Unit))))))))) (a1 : (Int) × ((List (UInt8)) × ((List (UInt8)) × ((Int) × ((Int) × (Unit)))))) : Option ((List ((Int) × ((List (UInt8)) × ((List (UInt8)) × ((Int) × ((Int) × (Unit))))))) × (((Int) × ((Int) × ((Int) × ((List (UInt8)) × (Unit))))) × ((Bool) × ((List ((Int) × ((List (UInt8)) × ((List (UInt8)) × ((Int) × ((Int) × (Unit))))))) × (((Int) × ((List (UInt8)) × ((List (UInt8)) × ((Int) × ((Int) × (Unit)))))) × ((List (Int)) × (((Int) × ((List (UInt8)) × ((List (UInt8)) × ((Int) × ((Int) × (Unit)))))) × ((Bool) × (Unit))))))))) :=
 ((Go.Fn.folioref04_lexer__rest a0)).bind fun r1 =>
 ((Go.Fn.folioref04_lexer__flush r1)).bind fun r2 =>
 ((Go.Lf.app (56 : Nat) r2.1 (a1 :: ([] : List ((Int) × ((List (UInt8)) × ((List (UInt8)) × ((Int) × ((Int) × (Unit)))))))))).bind fun r3 =>
 some (r3, (r2.2.1, (r2.2.2.1, (r2.2.2.2.1, (r2.2.2.2.2.1, (r2.2.2.2.2.2.1, (r2.2.2.2.2.2.2.1, (false, r2.2.2.2.2.2.2.2.2))))))))
theorem folioref04_lexer__mark_eq (a0 : (List ((Int) × ((List (UInt8)) × ((List (UInt8)) × ((Int) × ((Int) × (Unit))))))) × (((Int) × ((Int) × ((Int) × ((List (UInt8)) × (Unit))))) × ((Bool) × ((List ((Int) × ((List (UInt8)) × ((List (UInt8)) × ((Int) × ((Int) × (Unit))))))) × (((Int) × ((List (UInt8)) × ((List (UInt8)) × ((Int) × ((Int) × (Unit)))))) × ((List (Int)) × (((Int) × ((List (UInt8)) × ((List (UInt8)) × ((Int) × ((Int) × (Unit)))))) × ((Bool) × (Unit))))))))) (a1 : (Int) × ((List (UInt8)) × ((List (UInt8)) × ((Int) × ((Int) × (Unit)))))) : Go.Lf.fnE folioref04_lexer__markCtx folioref04_lexer__markCode folioref04_lexer__markAnn [.obj 52 (.st (.pr (.rw 40 (.st (.pr (.int .i64) (.pr .str (.pr .str (.pr (.int .i64) (.pr (.int .i64) .unit))))))) (.pr (.st (.pr (.int .i64) (.pr (.int .i64) (.pr (.int .i64) (.pr .str .unit))))) (.pr .bool (.pr (.mr 40 (.st (.pr (.int .i64) (.pr .str (.pr .str (.pr (.int .i64) (.pr (.int .i64) .unit))))))) (.pr (.st (.pr (.int .i64) (.pr .str (.pr .str (.pr (.int .i64) (.pr (.int .i64) .unit)))))) (.pr (.rw 5 (.int .u8)) (.pr (.st (.pr (.int .i64) (.pr .str (.pr .str (.pr (.int .i64) (.pr (.int .i64) .unit)))))) (.pr .bool .unit))))))))) (.st (.pr (.rw 40 (.st (.pr (.int .i64) (.pr .str (.pr .str (.pr (.int .i64) (.pr (.int .i64) .unit))))))) (.pr (.st (.pr (.int .i64) (.pr (.int .i64) (.pr (.int .i64) (.pr .str .unit))))) (.pr .bool (.pr (.mr 40 (.st (.pr (.int .i64) (.pr .str (.pr .str (.pr (.int .i64) (.pr (.int .i64) .unit))))))) (.pr (.st (.pr (.int .i64) (.pr .str (.pr .str (.pr (.int .i64) (.pr (.int .i64) .unit)))))) (.pr (.rw 5 (.int .u8)) (.pr (.st (.pr (.int .i64) (.pr .str (.pr .str (.pr (.int .i64) (.pr (.int .i64) .unit)))))) (.pr .bool .unit))))))))) [], .val (.st (.pr (.int .i64) (.pr .str (.pr .str (.pr (.int .i64) (.pr (.int .i64) .unit))))))] [] [] (a0, a1) = folioref04_lexer__mark a0 a1 := by kernel_rfl
noncomputable def folioref04_lexer__markEnt : Nat × Go.Lf.Entry := (66, ⟨[.obj 52 (.st (.pr (.rw 40 (.st (.pr (.int .i64) (.pr .str (.pr .str (.pr (.int .i64) (.pr (.int .i64) .unit))))))) (.pr (.st (.pr (.int .i64) (.pr (.int .i64) (.pr (.int .i64) (.pr .str .unit))))) (.pr .bool (.pr (.mr 40 (.st (.pr (.int .i64) (.pr .str (.pr .str (.pr (.int .i64) (.pr (.int .i64) .unit))))))) (.pr (.st (.pr (.int .i64) (.pr .str (.pr .str (.pr (.int .i64) (.pr (.int .i64) .unit)))))) (.pr (.rw 5 (.int .u8)) (.pr (.st (.pr (.int .i64) (.pr .str (.pr .str (.pr (.int .i64) (.pr (.int .i64) .unit)))))) (.pr .bool .unit))))))))) (.st (.pr (.rw 40 (.st (.pr (.int .i64) (.pr .str (.pr .str (.pr (.int .i64) (.pr (.int .i64) .unit))))))) (.pr (.st (.pr (.int .i64) (.pr (.int .i64) (.pr (.int .i64) (.pr .str .unit))))) (.pr .bool (.pr (.mr 40 (.st (.pr (.int .i64) (.pr .str (.pr .str (.pr (.int .i64) (.pr (.int .i64) .unit))))))) (.pr (.st (.pr (.int .i64) (.pr .str (.pr .str (.pr (.int .i64) (.pr (.int .i64) .unit)))))) (.pr (.rw 5 (.int .u8)) (.pr (.st (.pr (.int .i64) (.pr .str (.pr .str (.pr (.int .i64) (.pr (.int .i64) .unit)))))) (.pr .bool .unit))))))))) [], .val (.st (.pr (.int .i64) (.pr .str (.pr .str (.pr (.int .i64) (.pr (.int .i64) .unit))))))], [], fun z => folioref04_lexer__mark z.1 z.2⟩)
theorem folioref04_lexer__mark_ok : Go.Lf.EntryOk Go.Proofs.Tryz.prog GG 66 folioref04_lexer__markEnt.2 :=
  Go.Lf.fn_ok (c := folioref04_lexer__markCtx) (code := folioref04_lexer__markCode) (an := folioref04_lexer__markAnn) (slots := []) (fn := Go.Proofs.Tryz.f66) (by kernel_rfl) ⟨Tys_ok, Go.Lf.FnsOk.look (.con folioref04_lexer__flush_ok (.con folioref04_lexer__rest_ok .nil))⟩ (by kernel_rfl) (by kernel_rfl) (by kernel_rfl) (by kernel_rfl) (by kernel_rfl) (Nat.le_of_ble_eq_true rfl) (by simp [Go.Lf.Ty.top]) (by simp [Go.Lf.Ty.top]) fun z r h => (folioref04_lexer__mark_eq z.1 z.2).trans h
noncomputable def fault_Error__isCtx : Go.Lf.Ctx := ⟨12, Tys, [], [], [], []⟩
noncomputable def fault_Error__isCode : Go.Code := (Go.Proofs.Tryz.f67.body).getD .skip
def fault_Error__isAnn : Go.Lf.Ann := (.seq .no (.seq (.join (.one .nrm ⟨[], [], [(2, .bool)], []⟩) .no) .no))
noncomputable def fault_Error__is (a0 : Option ((Int) × (((Int) × ((Int) × ((Int) × ((Int) × ((List (UInt8)) × ((List ((List (UInt8)) × ((Int) × (Unit)))) × (Unit))))))) × (Unit)))) : Option (Bool) :=
 (bif (Option.isSome a0) then (a0).bind fun r1 =>
   some (decide ((r1.1 : Int) = (1 : Int)))
   else some false).bind fun r2 =>
 some r2
theorem fault_Error__is_eq (a0 : Option ((Int) × (((Int) × ((Int) × ((Int) × ((Int) × ((List (UInt8)) × ((List ((List (UInt8)) × ((Int) × (Unit)))) × (Unit))))))) × (Unit)))) : Go.Lf.fnE fault_Error__isCtx fault_Error__isCode fault_Error__isAnn [.val (.op (.st (.pr (.int .i64) (.pr (.st (.pr (.int .i64) (.pr (.int .i64) (.pr (.int .i64) (.pr (.int .i64) (.pr .str (.pr (.sl (.st (.pr .str (.pr (.int .i64) .unit)))) .unit))))))) .unit))))] [.bool] [.tmp 2] (a0) = fault_Error__is a0 := by kernel_rfl
noncomputable def fault_Error__isEnt : Nat × Go.Lf.Entry := (67, ⟨[.val (.op (.st (.pr (.int .i64) (.pr (.st (.pr (.int .i64) (.pr (.int .i64) (.pr (.int .i64) (.pr (.int .i64) (.pr .str (.pr (.sl (.st (.pr .str (.pr (.int .i64) .unit)))) .unit))))))) .unit))))], [.bool], fun z => fault_Error__is z⟩)
theorem fault_Error__is_ok : Go.Lf.EntryOk Go.Proofs.Tryz.prog GG 67 fault_Error__isEnt.2 :=
  Go.Lf.fn_ok (c := fault_Error__isCtx) (code := fault_Error__isCode) (an := fault_Error__isAnn) (slots := [.tmp 2]) (fn := Go.Proofs.Tryz.f67) (by kernel_rfl) ⟨Tys_ok, Go.Lf.FnsOk.look .nil⟩ (by kernel_rfl) (by kernel_rfl) (by kernel_rfl) (by kernel_rfl) (by kernel_rfl) (Nat.le_of_ble_eq_true rfl) (by simp [Go.Lf.Ty.top]) (by simp [Go.Lf.Ty.top]) fun z r h => (fault_Error__is_eq z).trans h
noncomputable def fault_gatherCtx : Go.Lf.Ctx := ⟨110, Tys, [fault_Error__isEnt], [2, 6, 37, 65, 84, 92, 106, 109], [], [(2, (.rw 58 (.st (.pr (.int .i64) (.pr (.int .i64) (.pr (.int .i64) (.pr (.int .i64) (.pr .str (.pr (.sl (.st (.pr .str (.pr (.int .i64) .unit)))) .unit))))))))), (6, (.rw 58 (.st (.pr (.int .i64) (.pr (.int .i64) (.pr (.int .i64) (.pr (.int .i64) (.pr .str (.pr (.sl (.st (.pr .str (.pr (.int .i64) .unit)))) .unit))))))))), (37, (.rw 58 (.st (.pr (.int .i64) (.pr (.int .i64) (.pr (.int .i64) (.pr (.int .i64) (.pr .str (.pr (.sl (.st (.pr .str (.pr (.int .i64) .unit)))) .unit))))))))), (65, (.rw 58 (.st (.pr (.int .i64) (.pr (.int .i64) (.pr (.int .i64) (.pr (.int .i64) (.pr .str (.pr (.sl (.st (.pr .str (.pr (.int .i64) .unit)))) .unit))))))))), (84, (.rw 58 (.st (.pr (.int .i64) (.pr (.int .i64) (.pr (.int .i64) (.pr (.int .i64) (.pr .str (.pr (.sl (.st (.pr .str (.pr (.int .i64) .unit)))) .unit))))))))), (92, (.rw 58 (.st (.pr (.int .i64) (.pr (.int .i64) (.pr (.int .i64) (.pr (.int .i64) (.pr .str (.pr (.sl (.st (.pr .str (.pr (.int .i64) .unit)))) .unit))))))))), (106, (.rw 58 (.st (.pr (.int .i64) (.pr (.int .i64) (.pr (.int .i64) (.pr (.int .i64) (.pr .str (.pr (.sl (.st (.pr .str (.pr (.int .i64) .unit)))) .unit))))))))), (109, (.rw 58 (.st (.pr (.int .i64) (.pr (.int .i64) (.pr (.int .i64) (.pr (.int .i64) (.pr .str (.pr (.sl (.st (.pr .str (.pr (.int .i64) .unit)))) .unit)))))))))]⟩
noncomputable def fault_gatherCode : Go.Code := (Go.Proofs.Tryz.f35.body).getD .skip
def fault_gatherAnn : Go.Lf.Ann := (.seq .no (.seq (.join (.one .nrm ⟨[], [], [(2, (.rw 58 (.st (.pr (.int .i64) (.pr (.int .i64) (.pr (.int .i64) (.pr (.int .i64) (.pr .str (.pr (.sl (.st (.pr .str (.pr (.int .i64) .unit)))) .unit)))))))))], []⟩) (.seq .no (.seq .no (.cnd .no (.seq .no (.cnd (.seq .no (.seq .no (.cnd (.seq .no (.seq (.join (.one .nrm ⟨[], [(9, 9, [], 0), (4, 4, [], 0)], [(2, (.rw 58 (.st (.pr (.int .i64) (.pr (.int .i64) (.pr (.int .i64) (.pr (.int .i64) (.pr .str (.pr (.sl (.st (.pr .str (.pr (.int .i64) .unit)))) .unit)))))))))], [(9, 58, (.st (.pr (.int .i64) (.pr (.int .i64) (.pr (.int .i64) (.pr (.int .i64) (.pr .str (.pr (.sl (.st (.pr .str (.pr (.int .i64) .unit)))) .unit)))))))), (4, 72, (.st (.pr (.int .i64) (.pr (.int .i64) (.pr (.sl (.st (.pr .str (.pr (.int .i64) .unit)))) .unit)))))]⟩) .no) .no)) .no))) .no)))))) .no))
noncomputable def fault_gather (a0 : Option ((Int) × (((Int) × ((Int) × ((Int) × ((Int) × ((List (UInt8)) × ((List ((List (UInt8)) × ((Int) × (Unit)))) × (Unit))))))) × (Unit)))) (a1 : (Int) × ((Int) × ((List ((List (UInt8)) × ((Int) × (Unit)))) × (Unit)))) (a2 : List ((Int) × ((Int) × ((Int) × ((Int) × ((List (UInt8)) × ((List ((List (UInt8)) × ((Int) × (Unit)))) × (Unit)))))))) : Option (List ((Int) × ((Int) × ((Int) × ((Int) × ((List (UInt8)) × ((List ((List (UInt8)) × ((Int) × (Unit)))) × (Unit)))))))) :=
 (bif (Option.isNone a0) then some a2
   else bif (Option.isSome a0) then ((Go.Fn.fault_Error__is a0)).bind fun r1 =>
   bif r1 then (a0).bind fun r2 =>
   (bif (decide ((a1.1 : Int) = (1 : Int))) then some (a2, ((r2.2.1.1, (a1.2.1, r2.2.1.2.2)), a1))
     else some (a2, (r2.2.1, a1))).bind fun r3 =>
   ((Go.Lf.app (24 : Nat) ([] : List ((List (UInt8)) × ((Int) × (Unit)))) r3.2.2.2.2.1)).bind fun r4 =>
   ((Go.Lf.app (72 : Nat) r3.1 ((r3.2.1.1, (r3.2.1.2.1, (r3.2.1.2.2.1, (r3.2.1.2.2.2.1, (r3.2.1.2.2.2.2.1, (r4, r3.2.1.2.2.2.2.2.2)))))) :: ([] : List ((Int) × ((Int) × ((Int) × ((Int) × ((List (UInt8)) × ((List ((List (UInt8)) × ((Int) × (Unit)))) × (Unit))))))))))).bind fun r5 =>
   some r5
   else some a2
   else (bif (Option.isSome a0) then none
     else some ()).bind fun r6 =>
   (bif (Option.isSome a0) then none
     else some ()).bind fun r7 =>
   some a2).bind fun r8 =>
 some r8
theorem fault_gather_eq (a0 : Option ((Int) × (((Int) × ((Int) × ((Int) × ((Int) × ((List (UInt8)) × ((List ((List (UInt8)) × ((Int) × (Unit)))) × (Unit))))))) × (Unit)))) (a1 : (Int) × ((Int) × ((List ((List (UInt8)) × ((Int) × (Unit)))) × (Unit)))) (a2 : List ((Int) × ((Int) × ((Int) × ((Int) × ((List (UInt8)) × ((List ((List (UInt8)) × ((Int) × (Unit)))) × (Unit)))))))) : Go.Lf.fnE fault_gatherCtx fault_gatherCode fault_gatherAnn [.val (.eb 80 (.st (.pr (.int .i64) (.pr (.st (.pr (.int .i64) (.pr (.int .i64) (.pr (.int .i64) (.pr (.int .i64) (.pr .str (.pr (.sl (.st (.pr .str (.pr (.int .i64) .unit)))) .unit))))))) .unit)))), .val (.st (.pr (.int .i64) (.pr (.int .i64) (.pr (.sl (.st (.pr .str (.pr (.int .i64) .unit)))) .unit)))), .val (.rw 58 (.st (.pr (.int .i64) (.pr (.int .i64) (.pr (.int .i64) (.pr (.int .i64) (.pr .str (.pr (.sl (.st (.pr .str (.pr (.int .i64) .unit)))) .unit))))))))] [(.rw 58 (.st (.pr (.int .i64) (.pr (.int .i64) (.pr (.int .i64) (.pr (.int .i64) (.pr .str (.pr (.sl (.st (.pr .str (.pr (.int .i64) .unit)))) .unit))))))))] [.tmp 6] (a0, a1, a2) = fault_gather a0 a1 a2 := by kernel_rfl
noncomputable def fault_gatherEnt : Nat × Go.Lf.Entry := (35, ⟨[.val (.eb 80 (.st (.pr (.int .i64) (.pr (.st (.pr (.int .i64) (.pr (.int .i64) (.pr (.int .i64) (.pr (.int .i64) (.pr .str (.pr (.sl (.st (.pr .str (.pr (.int .i64) .unit)))) .unit))))))) .unit)))), .val (.st (.pr (.int .i64) (.pr (.int .i64) (.pr (.sl (.st (.pr .str (.pr (.int .i64) .unit)))) .unit)))), .val (.rw 58 (.st (.pr (.int .i64) (.pr (.int .i64) (.pr (.int .i64) (.pr (.int .i64) (.pr .str (.pr (.sl (.st (.pr .str (.pr (.int .i64) .unit)))) .unit))))))))], [(.rw 58 (.st (.pr (.int .i64) (.pr (.int .i64) (.pr (.int .i64) (.pr (.int .i64) (.pr .str (.pr (.sl (.st (.pr .str (.pr (.int .i64) .unit)))) .unit))))))))], fun z => fault_gather z.1 z.2.1 z.2.2⟩)
theorem fault_gather_ok : Go.Lf.EntryOk Go.Proofs.Tryz.prog GG 35 fault_gatherEnt.2 :=
  Go.Lf.fn_ok (c := fault_gatherCtx) (code := fault_gatherCode) (an := fault_gatherAnn) (slots := [.tmp 6]) (fn := Go.Proofs.Tryz.f35) (by kernel_rfl) ⟨Tys_ok, Go.Lf.FnsOk.look (.con fault_Error__is_ok .nil)⟩ (by kernel_rfl) (by kernel_rfl) (by kernel_rfl) (by kernel_rfl) (by kernel_rfl) (Nat.le_of_ble_eq_true rfl) (by simp [Go.Lf.Ty.top]) (by simp [Go.Lf.Ty.top]) fun z r h => (fault_gather_eq z.1 z.2.1 z.2.2).trans h
noncomputable def fault_bareCtx : Go.Lf.Ctx := ⟨30, Tys, [], [2, 3, 8, 12], [], [(2, (.rw 109 (.st (.pr .str (.pr (.int .i64) .unit))))), (3, (.rw 109 (.st (.pr .str (.pr (.int .i64) .unit))))), (8, (.rw 109 (.st (.pr .str (.pr (.int .i64) .unit))))), (12, (.rw 109 (.st (.pr .str (.pr (.int .i64) .unit)))))]⟩
noncomputable def fault_bareCode : Go.Code := (Go.Proofs.Tryz.f36.body).getD .skip
def fault_bareAnn : Go.Lf.Ann := (.seq .no (.seq .no (.loop ⟨[], [], [(3, (.rw 109 (.st (.pr .str (.pr (.int .i64) .unit))))), (0, (.eb 80 (.st (.pr (.int .i64) (.pr (.st (.pr (.int .i64) (.pr (.int .i64) (.pr (.int .i64) (.pr (.int .i64) (.pr .str (.pr (.sl (.st (.pr .str (.pr (.int .i64) .unit)))) .unit))))))) .unit)))))], []⟩ (.one .ret ⟨[], [], [(2, (.rw 109 (.st (.pr .str (.pr (.int .i64) .unit)))))], []⟩) .no)))
noncomputable def fault_bare (a0 : Option ((Int) × (((Int) × ((Int) × ((Int) × ((Int) × ((List (UInt8)) × ((List ((List (UInt8)) × ((Int) × (Unit)))) × (Unit))))))) × (Unit)))) : Option (List ((List (UInt8)) × ((Int) × (Unit)))) :=
 (Go.Lf.loopC (σ := (List ((List (UInt8)) × ((Int) × (Unit)))) × (Option ((Int) × (((Int) × ((Int) × ((Int) × ((Int) × ((List (UInt8)) × ((List ((List (UInt8)) × ((Int) × (Unit)))) × (Unit))))))) × (Unit))))) (κ := List ((List (UInt8)) × ((Int) × (Unit)))) (fun z1 =>
     some (.inr z1.1)) (([] : List ((List (UInt8)) × ((Int) × (Unit)))), a0) : Option (List ((List (UInt8)) × ((Int) × (Unit))))).bind fun r2 =>
 some r2
theorem fault_bare_eq (a0 : Option ((Int) × (((Int) × ((Int) × ((Int) × ((Int) × ((List (UInt8)) × ((List ((List (UInt8)) × ((Int) × (Unit)))) × (Unit))))))) × (Unit)))) : Go.Lf.fnE fault_bareCtx fault_bareCode fault_bareAnn [.val (.eb 80 (.st (.pr (.int .i64) (.pr (.st (.pr (.int .i64) (.pr (.int .i64) (.pr (.int .i64) (.pr (.int .i64) (.pr .str (.pr (.sl (.st (.pr .str (.pr (.int .i64) .unit)))) .unit))))))) .unit))))] [(.rw 109 (.st (.pr .str (.pr (.int .i64) .unit))))] [.tmp 2] (a0) = fault_bare a0 := by kernel_rfl
noncomputable def fault_bareEnt : Nat × Go.Lf.Entry := (36, ⟨[.val (.eb 80 (.st (.pr (.int .i64) (.pr (.st (.pr (.int .i64) (.pr (.int .i64) (.pr (.int .i64) (.pr (.int .i64) (.pr .str (.pr (.sl (.st (.pr .str (.pr (.int .i64) .unit)))) .unit))))))) .unit))))], [(.rw 109 (.st (.pr .str (.pr (.int .i64) .unit))))], fun z => fault_bare z⟩)
theorem fault_bare_ok : Go.Lf.EntryOk Go.Proofs.Tryz.prog GG 36 fault_bareEnt.2 :=
  Go.Lf.fn_ok (c := fault_bareCtx) (code := fault_bareCode) (an := fault_bareAnn) (slots := [.tmp 2]) (fn := Go.Proofs.Tryz.f36) (by kernel_rfl) ⟨Tys_ok, Go.Lf.FnsOk.look .nil⟩ (by kernel_rfl) (by kernel_rfl) (by kernel_rfl) (by kernel_rfl) (by kernel_rfl) (Nat.le_of_ble_eq_true rfl) (by simp [Go.Lf.Ty.top]) (by simp [Go.Lf.Ty.top]) fun z r h => (fault_bare_eq z).trans h
noncomputable def fault_AllCtx : Go.Lf.Ctx := ⟨17, Tys, [fault_gatherEnt, fault_bareEnt], [2, 3, 12], [], [(2, (.rw 58 (.st (.pr (.int .i64) (.pr (.int .i64) (.pr (.int .i64) (.pr (.int .i64) (.pr .str (.pr (.sl (.st (.pr .str (.pr (.int .i64) .unit)))) .unit))))))))), (3, (.rw 58 (.st (.pr (.int .i64) (.pr (.int .i64) (.pr (.int .i64) (.pr (.int .i64) (.pr .str (.pr (.sl (.st (.pr .str (.pr (.int .i64) .unit)))) .unit))))))))), (12, (.rw 58 (.st (.pr (.int .i64) (.pr (.int .i64) (.pr (.int .i64) (.pr (.int .i64) (.pr .str (.pr (.sl (.st (.pr .str (.pr (.int .i64) .unit)))) .unit)))))))))]⟩
noncomputable def fault_AllCode : Go.Code := (Go.Proofs.Tryz.f18.body).getD .skip
def fault_AllAnn : Go.Lf.Ann := .no
noncomputable def fault_All (a0 : Option ((Int) × (((Int) × ((Int) × ((Int) × ((Int) × ((List (UInt8)) × ((List ((List (UInt8)) × ((Int) × (Unit)))) × (Unit))))))) × (Unit)))) : Option (List ((Int) × ((Int) × ((Int) × ((Int) × ((List (UInt8)) × ((List ((List (UInt8)) × ((Int) × (Unit)))) × (Unit)))))))) :=
 bif (Option.isNone a0) then some ([] : List ((Int) × ((Int) × ((Int) × ((Int) × ((List (UInt8)) × ((List ((List (UInt8)) × ((Int) × (Unit)))) × (Unit))))))))
 else ((Go.Fn.fault_gather a0 ((0 : Int), ((0 : Int), (([] : List ((List (UInt8)) × ((Int) × (Unit)))), ()))) ([] : List ((Int) × ((Int) × ((Int) × ((Int) × ((List (UInt8)) × ((List ((List (UInt8)) × ((Int) × (Unit)))) × (Unit)))))))))).bind fun r1 =>
 bif (decide ((0 : Int) < (((List.length r1) : Nat) : Int))) then some r1
 else ((Go.Fn.fault_bare a0)).bind fun r2 =>
 some (((10 : Int), ((0 : Int), ((0 : Int), ((0 : Int), (([] : List (UInt8)), (r2, ())))))) :: ([] : List ((Int) × ((Int) × ((Int) × ((Int) × ((List (UInt8)) × ((List ((List (UInt8)) × ((Int) × (Unit)))) × (Unit)))))))))
theorem fault_All_eq (a0 : Option ((Int) × (((Int) × ((Int) × ((Int) × ((Int) × ((List (UInt8)) × ((List ((List (UInt8)) × ((Int) × (Unit)))) × (Unit))))))) × (Unit)))) : Go.Lf.fnE fault_AllCtx fault_AllCode fault_AllAnn [.val (.eb 80 (.st (.pr (.int .i64) (.pr (.st (.pr (.int .i64) (.pr (.int .i64) (.pr (.int .i64) (.pr (.int .i64) (.pr .str (.pr (.sl (.st (.pr .str (.pr (.int .i64) .unit)))) .unit))))))) .unit))))] [(.rw 58 (.st (.pr (.int .i64) (.pr (.int .i64) (.pr (.int .i64) (.pr (.int .i64) (.pr .str (.pr (.sl (.st (.pr .str (.pr (.int .i64) .unit)))) .unit))))))))] [.tmp 2] (a0) = fault_All a0 := by kernel_rfl
noncomputable def fault_AllEnt : Nat × Go.Lf.Entry := (18, ⟨[.val (.eb 80 (.st (.pr (.int .i64) (.pr (.st (.pr (.int .i64) (.pr (.int .i64) (.pr (.int .i64) (.pr (.int .i64) (.pr .str (.pr (.sl (.st (.pr .str (.pr (.int .i64) .unit)))) .unit))))))) .unit))))], [(.rw 58 (.st (.pr (.int .i64) (.pr (.int .i64) (.pr (.int .i64) (.pr (.int .i64) (.pr .str (.pr (.sl (.st (.pr .str (.pr (.int .i64) .unit)))) .unit))))))))], fun z => fault_All z⟩)
theorem fault_All_ok : Go.Lf.EntryOk Go.Proofs.Tryz.prog GG 18 fault_AllEnt.2 :=
  Go.Lf.fn_ok (c := fault_AllCtx) (code := fault_AllCode) (an := fault_AllAnn) (slots := [.tmp 2]) (fn := Go.Proofs.Tryz.f18) (by kernel_rfl) ⟨Tys_ok, Go.Lf.FnsOk.look (.con fault_gather_ok (.con fault_bare_ok .nil))⟩ (by kernel_rfl) (by kernel_rfl) (by kernel_rfl) (by kernel_rfl) (by kernel_rfl) (Nat.le_of_ble_eq_true rfl) (by simp [Go.Lf.Ty.top]) (by simp [Go.Lf.Ty.top]) fun z r h => (fault_All_eq z).trans h
noncomputable def fault_ToldCtx : Go.Lf.Ctx := ⟨13, Tys, [fault_AllEnt], [], [], []⟩
noncomputable def fault_ToldCode : Go.Code := (Go.Proofs.Tryz.f17.body).getD .skip
def fault_ToldAnn : Go.Lf.Ann := .no
noncomputable def fault_Told (a0 : Option ((Int) × (((Int) × ((Int) × ((Int) × ((Int) × ((List (UInt8)) × ((List ((List (UInt8)) × ((Int) × (Unit)))) × (Unit))))))) × (Unit)))) : Option ((Int) × ((Int) × ((Int) × ((Int) × ((List (UInt8)) × ((List ((List (UInt8)) × ((Int) × (Unit)))) × (Unit))))))) :=
 ((Go.Fn.fault_All a0)).bind fun r1 =>
 bif (decide (((((List.length r1) : Nat) : Int) : Int) = (0 : Int))) then some ((0 : Int), ((0 : Int), ((0 : Int), ((0 : Int), (([] : List (UInt8)), (([] : List ((List (UInt8)) × ((Int) × (Unit)))), ()))))))
 else ((Go.Lf.idx r1 (0 : Int))).bind fun r2 =>
 some r2
theorem fault_Told_eq (a0 : Option ((Int) × (((Int) × ((Int) × ((Int) × ((Int) × ((List (UInt8)) × ((List ((List (UInt8)) × ((Int) × (Unit)))) × (Unit))))))) × (Unit)))) : Go.Lf.fnE fault_ToldCtx fault_ToldCode fault_ToldAnn [.val (.eb 80 (.st (.pr (.int .i64) (.pr (.st (.pr (.int .i64) (.pr (.int .i64) (.pr (.int .i64) (.pr (.int .i64) (.pr .str (.pr (.sl (.st (.pr .str (.pr (.int .i64) .unit)))) .unit))))))) .unit))))] [(.st (.pr (.int .i64) (.pr (.int .i64) (.pr (.int .i64) (.pr (.int .i64) (.pr .str (.pr (.sl (.st (.pr .str (.pr (.int .i64) .unit)))) .unit)))))))] [.cell 2 58] (a0) = fault_Told a0 := by kernel_rfl
noncomputable def fault_ToldEnt : Nat × Go.Lf.Entry := (17, ⟨[.val (.eb 80 (.st (.pr (.int .i64) (.pr (.st (.pr (.int .i64) (.pr (.int .i64) (.pr (.int .i64) (.pr (.int .i64) (.pr .str (.pr (.sl (.st (.pr .str (.pr (.int .i64) .unit)))) .unit))))))) .unit))))], [(.st (.pr (.int .i64) (.pr (.int .i64) (.pr (.int .i64) (.pr (.int .i64) (.pr .str (.pr (.sl (.st (.pr .str (.pr (.int .i64) .unit)))) .unit)))))))], fun z => fault_Told z⟩)
theorem fault_Told_ok : Go.Lf.EntryOk Go.Proofs.Tryz.prog GG 17 fault_ToldEnt.2 :=
  Go.Lf.fn_ok (c := fault_ToldCtx) (code := fault_ToldCode) (an := fault_ToldAnn) (slots := [.cell 2 58]) (fn := Go.Proofs.Tryz.f17) (by kernel_rfl) ⟨Tys_ok, Go.Lf.FnsOk.look (.con fault_All_ok .nil)⟩ (by kernel_rfl) (by kernel_rfl) (by kernel_rfl) (by kernel_rfl) (by kernel_rfl) (Nat.le_of_ble_eq_true rfl) (by simp [Go.Lf.Ty.top]) (by simp [Go.Lf.Ty.top]) fun z r h => (fault_Told_eq z).trans h
noncomputable def foliolaw04_toldCtx : Go.Lf.Ctx := ⟨60, Tys, [fault_ToldEnt, fault_AllEnt], [], [], []⟩
noncomputable def foliolaw04_toldCode : Go.Code := (Go.Proofs.Tryz.f6.body).getD .skip
def foliolaw04_toldAnn : Go.Lf.Ann := (.seq .no (.seq .no (.seq .no (.seq (.join (.one .nrm ⟨[], [], [(4, .bool)], []⟩) .no) .no))))
noncomputable def foliolaw04_told (a0 : Option ((Int) × (((Int) × ((Int) × ((Int) × ((Int) × ((List (UInt8)) × ((List ((List (UInt8)) × ((Int) × (Unit)))) × (Unit))))))) × (Unit)))) (a1 : (Int) × ((Int) × ((Int) × ((List (UInt8)) × (Unit))))) : Option (Bool) :=
 bif (decide ((a1.1 : Int) = (0 : Int))) then some (Option.isNone a0)
 else ((Go.Fn.fault_Told a0)).bind fun r1 =>
 (bif (Option.isSome a0) then bif (decide ((r1.1 : Int) = a1.1)) then bif (decide ((r1.2.1 : Int) = (0 : Int))) then bif (decide ((r1.2.2.1 : Int) = a1.2.1)) then bif (decide ((r1.2.2.2.1 : Int) = a1.2.2.1)) then bif (decide ((r1.2.2.2.2.1 : List (UInt8)) = a1.2.2.2.1)) then bif (decide (((((List.length r1.2.2.2.2.2.1) : Nat) : Int) : Int) = (0 : Int))) then ((Go.Fn.fault_All a0)).bind fun r2 =>
   some (decide (((((List.length r2) : Nat) : Int) : Int) = (1 : Int)))
   else some false
   else some false
   else some false
   else some false
   else some false
   else some false
   else some false).bind fun r3 =>
 some r3
theorem foliolaw04_told_eq (a0 : Option ((Int) × (((Int) × ((Int) × ((Int) × ((Int) × ((List (UInt8)) × ((List ((List (UInt8)) × ((Int) × (Unit)))) × (Unit))))))) × (Unit)))) (a1 : (Int) × ((Int) × ((Int) × ((List (UInt8)) × (Unit))))) : Go.Lf.fnE foliolaw04_toldCtx foliolaw04_toldCode foliolaw04_toldAnn [.val (.eb 80 (.st (.pr (.int .i64) (.pr (.st (.pr (.int .i64) (.pr (.int .i64) (.pr (.int .i64) (.pr (.int .i64) (.pr .str (.pr (.sl (.st (.pr .str (.pr (.int .i64) .unit)))) .unit))))))) .unit)))), .val (.st (.pr (.int .i64) (.pr (.int .i64) (.pr (.int .i64) (.pr .str .unit)))))] [.bool] [.tmp 4] (a0, a1) = foliolaw04_told a0 a1 := by kernel_rfl
noncomputable def foliolaw04_toldEnt : Nat × Go.Lf.Entry := (6, ⟨[.val (.eb 80 (.st (.pr (.int .i64) (.pr (.st (.pr (.int .i64) (.pr (.int .i64) (.pr (.int .i64) (.pr (.int .i64) (.pr .str (.pr (.sl (.st (.pr .str (.pr (.int .i64) .unit)))) .unit))))))) .unit)))), .val (.st (.pr (.int .i64) (.pr (.int .i64) (.pr (.int .i64) (.pr .str .unit)))))], [.bool], fun z => foliolaw04_told z.1 z.2⟩)
theorem foliolaw04_told_ok : Go.Lf.EntryOk Go.Proofs.Tryz.prog GG 6 foliolaw04_toldEnt.2 :=
  Go.Lf.fn_ok (c := foliolaw04_toldCtx) (code := foliolaw04_toldCode) (an := foliolaw04_toldAnn) (slots := [.tmp 4]) (fn := Go.Proofs.Tryz.f6) (by kernel_rfl) ⟨Tys_ok, Go.Lf.FnsOk.look (.con fault_Told_ok (.con fault_All_ok .nil))⟩ (by kernel_rfl) (by kernel_rfl) (by kernel_rfl) (by kernel_rfl) (by kernel_rfl) (Nat.le_of_ble_eq_true rfl) (by simp [Go.Lf.Ty.top]) (by simp [Go.Lf.Ty.top]) fun z r h => (foliolaw04_told_eq z.1 z.2).trans h
noncomputable def folioref04_SameCtx : Go.Lf.Ctx := ⟨80, Tys, [], [], [], []⟩
noncomputable def folioref04_SameCode : Go.Code := (Go.Proofs.Tryz.f7.body).getD .skip
def folioref04_SameAnn : Go.Lf.Ann := (.seq .no (.seq .no (.seq (.seq .no (.loop ⟨[1, 0], [], [(5, (.int .i64))], []⟩ (.more (.ext 0) ⟨[], [], [], []⟩ (.one .ret ⟨[], [], [(4, .bool)], []⟩)) (.seq .no (.seq (.seq (.join (.one .nrm ⟨[1, 0, 5], [], [(79, .bool)], []⟩) (.draw 63)) .no) .no)))) .no)))
noncomputable def folioref04_Same (a0 : List ((Int) × ((List (UInt8)) × ((List (UInt8)) × ((Int) × ((Int) × (Unit))))))) (a1 : List ((Int) × ((List (UInt8)) × ((List (UInt8)) × ((Int) × ((Int) × (Unit))))))) : Option (Bool) :=
 bif (decide (((((List.length a0) : Nat) : Int) : Int) ≠ (((List.length a1) : Nat) : Int))) then some false
 else (Go.Lf.loopC (σ := Int) (κ := (Unit) ⊕ (Bool)) (fun z1 =>
     bif (decide (z1 < (((List.length a0) : Nat) : Int))) then (((Go.Lf.idx a0 z1)).bind fun r2 =>
       ((Go.Lf.idx a1 z1)).bind fun r3 =>
       bif (!(decide ((r2.1 : Int) ≠ r3.1))) then ((Go.Lf.idx a0 z1)).bind fun r4 =>
       ((Go.Lf.idx a1 z1)).bind fun r5 =>
       bif (!(decide ((r4.2.1 : List (UInt8)) ≠ r5.2.1))) then ((Go.Lf.idx a0 z1)).bind fun r6 =>
       ((Go.Lf.idx a1 z1)).bind fun r7 =>
       bif (!(decide ((r6.2.2.1 : List (UInt8)) ≠ r7.2.2.1))) then ((Go.Lf.idx a0 z1)).bind fun r8 =>
       ((Go.Lf.idx a1 z1)).bind fun r9 =>
       bif (!(decide ((r8.2.2.2.1 : Int) ≠ r9.2.2.2.1))) then ((Go.Lf.idx a0 z1)).bind fun r10 =>
       ((Go.Lf.idx a1 z1)).bind fun r11 =>
       some (decide ((r10.2.2.2.2.1 : Int) ≠ r11.2.2.2.2.1))
       else some true
       else some true
       else some true
       else some true).bind fun r12 =>
     bif r12 then some (.inr (.inr false))
     else some (.inl (Go.IntKind.wrap .i64 (z1 + (1 : Int))))
     else some (.inr (.inl ()))) (0 : Int) : Option ((Unit) ⊕ (Bool))).bind fun r13 =>
 Go.Lf.onSum r13 (fun a14 =>
 some true) (fun b15 =>
 some b15)
theorem folioref04_Same_eq (a0 : List ((Int) × ((List (UInt8)) × ((List (UInt8)) × ((Int) × ((Int) × (Unit))))))) (a1 : List ((Int) × ((List (UInt8)) × ((List (UInt8)) × ((Int) × ((Int) × (Unit))))))) : Go.Lf.fnE folioref04_SameCtx folioref04_SameCode folioref04_SameAnn [.val (.sl (.st (.pr (.int .i64) (.pr .str (.pr .str (.pr (.int .i64) (.pr (.int .i64) .unit))))))), .val (.sl (.st (.pr (.int .i64) (.pr .str (.pr .str (.pr (.int .i64) (.pr (.int .i64) .unit)))))))] [.bool] [.tmp 4] (a0, a1) = folioref04_Same a0 a1 := by kernel_rfl
noncomputable def folioref04_SameEnt : Nat × Go.Lf.Entry := (7, ⟨[.val (.sl (.st (.pr (.int .i64) (.pr .str (.pr .str (.pr (.int .i64) (.pr (.int .i64) .unit))))))), .val (.sl (.st (.pr (.int .i64) (.pr .str (.pr .str (.pr (.int .i64) (.pr (.int .i64) .unit)))))))], [.bool], fun z => folioref04_Same z.1 z.2⟩)
theorem folioref04_Same_ok : Go.Lf.EntryOk Go.Proofs.Tryz.prog GG 7 folioref04_SameEnt.2 :=
  Go.Lf.fn_ok (c := folioref04_SameCtx) (code := folioref04_SameCode) (an := folioref04_SameAnn) (slots := [.tmp 4]) (fn := Go.Proofs.Tryz.f7) (by kernel_rfl) ⟨Tys_ok, Go.Lf.FnsOk.look .nil⟩ (by kernel_rfl) (by kernel_rfl) (by kernel_rfl) (by kernel_rfl) (by kernel_rfl) (Nat.le_of_ble_eq_true rfl) (by simp [Go.Lf.Ty.top]) (by simp [Go.Lf.Ty.top]) fun z r h => (folioref04_Same_eq z.1 z.2).trans h
noncomputable def foliolaw04_awakeCtx : Go.Lf.Ctx := ⟨64, Tys, [mark_LexEnt, foliolaw04_toldEnt, mark_EscapeEnt], [], [], []⟩
noncomputable def foliolaw04_awakeCode : Go.Code := (Go.Proofs.Tryz.f8.body).getD .skip
def foliolaw04_awakeAnn : Go.Lf.Ann := (.seq .no (.seq .no (.seq .no (.seq (.join (.one .nrm ⟨[], [], [(0, .bool)], []⟩) .no) .no))))
noncomputable def foliolaw04_awake  : Option (Bool) :=
 ((Go.Fn.mark_Lex ((111 : UInt8) :: ((110 : UInt8) :: ((101 : UInt8) :: ((32 : UInt8) :: ((123 : UInt8) :: ((98 : UInt8) :: ((32 : UInt8) :: ((116 : UInt8) :: ((119 : UInt8) :: ((111 : UInt8) :: ((125 : UInt8) :: ((32 : UInt8) :: ((32 : UInt8) :: ((116 : UInt8) :: ((104 : UInt8) :: ((114 : UInt8) :: ((101 : UInt8) :: ((101 : UInt8) :: ((10 : UInt8) :: ((102 : UInt8) :: ((111 : UInt8) :: ((117 : UInt8) :: ((114 : UInt8) :: ([] : List (UInt8))))))))))))))))))))))))))).bind fun r1 =>
 ((Go.Fn.mark_Lex ((46 : UInt8) :: ((116 : UInt8) :: ((111 : UInt8) :: ((112 : UInt8) :: ((105 : UInt8) :: ((99 : UInt8) :: ((115 : UInt8) :: ((49 : UInt8) :: ([] : List (UInt8)))))))))))).bind fun r2 =>
 (bif (Option.isNone r1.2) then bif (decide (((((List.length r1.1) : Nat) : Int) : Int) = (5 : Int))) then ((Go.Lf.idx r1.1 (0 : Int))).bind fun r3 =>
   bif (decide ((r3.2.2.1 : List (UInt8)) = ((111 : UInt8) :: ((110 : UInt8) :: ((101 : UInt8) :: ((32 : UInt8) :: ([] : List (UInt8)))))))) then ((Go.Lf.idx r1.1 (1 : Int))).bind fun r4 =>
   bif (decide ((r4.2.1 : List (UInt8)) = ((98 : UInt8) :: ([] : List (UInt8))))) then ((Go.Lf.idx r1.1 (1 : Int))).bind fun r5 =>
   bif (decide ((r5.2.2.2.2.1 : Int) = (5 : Int))) then ((Go.Lf.idx r1.1 (4 : Int))).bind fun r6 =>
   bif (decide ((r6.2.2.1 : List (UInt8)) = ((32 : UInt8) :: ((116 : UInt8) :: ((104 : UInt8) :: ((114 : UInt8) :: ((101 : UInt8) :: ((101 : UInt8) :: ((32 : UInt8) :: ((102 : UInt8) :: ((111 : UInt8) :: ((117 : UInt8) :: ((114 : UInt8) :: ([] : List (UInt8))))))))))))))) then ((Go.Lf.idx r1.1 (4 : Int))).bind fun r7 =>
   bif (decide ((r7.1 : Int) = (6 : Int))) then ((Go.Fn.foliolaw04_told r2.2 ((41 : Int), ((1 : Int), ((2 : Int), (((116 : UInt8) :: ((111 : UInt8) :: ((112 : UInt8) :: ((105 : UInt8) :: ((99 : UInt8) :: ((115 : UInt8) :: ([] : List (UInt8)))))))), ())))))).bind fun r8 =>
   bif r8 then ((Go.Fn.mark_Escape ((46 : UInt8) :: ((97 : UInt8) :: ((123 : UInt8) :: ([] : List (UInt8))))))).bind fun r9 =>
   some (decide ((r9 : List (UInt8)) = ((92 : UInt8) :: ((46 : UInt8) :: ((97 : UInt8) :: ((92 : UInt8) :: ((123 : UInt8) :: ([] : List (UInt8)))))))))
   else some false
   else some false
   else some false
   else some false
   else some false
   else some false
   else some false
   else some false).bind fun r10 =>
 some r10
theorem foliolaw04_awake_eq  : Go.Lf.fnE foliolaw04_awakeCtx foliolaw04_awakeCode foliolaw04_awakeAnn [] [.bool] [.tmp 0] () = foliolaw04_awake  := by kernel_rfl
noncomputable def foliolaw04_awakeEnt : Nat × Go.Lf.Entry := (8, ⟨[], [.bool], fun _ => foliolaw04_awake ⟩)
theorem foliolaw04_awake_ok : Go.Lf.EntryOk Go.Proofs.Tryz.prog GG 8 foliolaw04_awakeEnt.2 :=
  Go.Lf.fn_ok (c := foliolaw04_awakeCtx) (code := foliolaw04_awakeCode) (an := foliolaw04_awakeAnn) (slots := [.tmp 0]) (fn := Go.Proofs.Tryz.f8) (by kernel_rfl) ⟨Tys_ok, Go.Lf.FnsOk.look (.con mark_Lex_ok (.con foliolaw04_told_ok (.con mark_Escape_ok .nil)))⟩ (by kernel_rfl) (by kernel_rfl) (by kernel_rfl) (by kernel_rfl) (by kernel_rfl) (Nat.le_of_ble_eq_true rfl) (by simp [Go.Lf.Ty.top]) (by simp [Go.Lf.Ty.top]) fun z r h => (foliolaw04_awake_eq ).trans h
end Go.Fn
