/- mark.Escape, walked. -/
import Derived.Test.YtgajdfnceadkfaaDoorQAC
import Derived.Lib.TrimU
import Derived.KernelRfl
import Derived.Lib.SmallJoins
import Derived.Shelf.Strings.SlTrimAscii
import Derived.Test.YtgajdfnceadkfaaDoorProg
namespace Go.Fn
open Go Go.Proofs Go.Shelf Go.RowKit

/-- is a backslash put ahead of the byte at a place? -/
def escB (k : Nat) (b : UInt8) : Bool := (b == 92 || b == 123 || b == 125 || b == 124) || (k == 0 && (b == 46 || b == 35))
def escN (s : List UInt8) : Nat → List UInt8
  | 0 => []
  | k + 1 => escN s k ++ (match s[k]? with | some b => if escB k b then [92, b] else [b] | none => [])
theorem escN_len (s : List UInt8) : ∀ k, (escN s k).length ≤ 2 * k
  | 0 => Nat.le_refl _
  | k + 1 => by
    have ih := escN_len s k
    have : (match s[k]? with | some b => if escB k b then [92, b] else [b] | none => ([] : List UInt8)).length ≤ 2 := by
      split
      · split <;> simp
      · simp
    rw [escN, List.length_append]; omega
theorem escN_succ (s : List UInt8) (k : Nat) : escN s (k + 1) = escN s k ++ (match s[k]? with | some b => if escB k b then [92, b] else [b] | none => []) := rfl
theorem special_ix (b : UInt8) : decide (0 ≤ Lib.indexByte [92, 123, 125, 124] ((b.toNat : Int).toNat.toUInt8)) = (b == 92 || b == 123 || b == 125 || b == 124) := by
  have : (b.toNat : Int).toNat.toUInt8 = b := by simp
  rw [this]
  by_cases h1 : b = 92
  · subst h1; rfl
  by_cases h2 : b = 123
  · subst h2; rfl
  by_cases h3 : b = 125
  · subst h3; rfl
  by_cases h4 : b = 124
  · subst h4; rfl
  simp [Lib.indexByte, h1, h2, h3, h4, Ne.symm h1, Ne.symm h2, Ne.symm h3, Ne.symm h4]
set_option maxHeartbeats 4000000 in
set_option maxRecDepth 1000000 in
theorem esc_walk (s : ByteArray) (w : World) (hs : s.size ≤ 70368744177664) :
    Calls Tryd.prog 9 #[.string s] w fun e w' => e = .returned (.string ⟨(escN s.data.toList s.size).toArray⟩) ∧ Below w.heap.size w w' := by
  have t9 := Tryd.underlying9; have a9 := Tryd.isAgg9; have z9 := Tryd.sizeOf9; have v9 := Tryd.zeroValue9; have u9 := run_underlying Tryd.underlying9
  have t5 := Tryd.underlying5; have a5 := Tryd.isAgg5; have z5 := Tryd.sizeOf5; have v5 := Tryd.zeroValue5; have u5 := run_underlying Tryd.underlying5
  have t3 := Tryd.underlying3; have a3 := Tryd.isAgg3; have z3 := Tryd.sizeOf3; have v3 := Tryd.zeroValue3; have u3 := run_underlying Tryd.underlying3
  have t4 := Tryd.underlying4; have a4 := Tryd.isAgg4; have z4 := Tryd.sizeOf4; have v4 := Tryd.zeroValue4; have u4 := run_underlying Tryd.underlying4
  have t72 := Tryd.underlying44; have a72 := Tryd.isAgg44; have z72 := Tryd.sizeOf44; have v72 := Tryd.zeroValue44; have u72 := run_underlying Tryd.underlying44
  go_enter Tryd.func9, Tryd.ntmps9
  go_wp2
  go_loopw [7] (fun i wr => ∃ k : Nat, k ≤ s.size ∧ i = .int .i64 k ∧ Lib.IsBuilderF 44 5 w.heap.size w.heap.size (Lib.byteCells (escN s.data.toList k)) wr ∧ Below w.heap.size w wr) (fun i _ => s.size - (intOf i).toNat)
  case atStart => exact ⟨0, Nat.zero_le _, rfl, Lib.IsBuilderF.of (Lib.fresh_isBuilder 44 5 w), (Below.refl _ w).alloc (Nat.le_refl _) _⟩
  case round =>
    obtain ⟨k, hk, rfl, hI, hbw⟩ := hrel
    have hle := escN_len s.data.toList k
    by_cases hlt : k < s.size
    · have hb : s.data.toList[k]? = some (s[k]'hlt) := by
        rw [Array.getElem?_toList]
        exact Array.getElem?_eq_getElem hlt
      have hsp := special_ix (s[k]'hlt)
      have hsz : w.heap.size ≤ wr.heap.size := hbw.size
      by_cases hS : 0 ≤ Lib.indexByte [92, 123, 125, 124] (s[k]'hlt)
      · have HE : escB k (s[k]'hlt) = true := by
          have : (((s[k]'hlt).toNat : Int).toNat.toUInt8) = s[k]'hlt := by simp
          rw [this, decide_eq_true hS] at hsp
          unfold escB
          rw [← hsp]; rfl
        go_wp2_with (first | (go_at_call 18; refine (Tryd.strings_IndexByte _ _ _).mono ?_) | (go_at_call 19; refine (wb_k w.heap.size w.heap.size _ 92 _ hI (by rw [Lib.byteCells_length]; omega) hsz).mono ?_))
        rintro e W1 ⟨rfl, h1, b1⟩
        have hsz1 : w.heap.size ≤ W1.heap.size := Nat.le_trans hsz b1.size
        go_wp2_with (go_at_call 19; refine (wb_k w.heap.size w.heap.size _ _ _ (Or.inr h1) (by rw [List.length_append, Lib.byteCells_length]; simp; omega) hsz1).mono ?_)
        rintro e W2 ⟨rfl, h2, b2⟩
        go_wp2
        go_roundw
        case rel =>
          refine ⟨k + 1, by omega, by go_num, ?_, (hbw.trans b1).trans b2⟩
          have he : escN s.data.toList (k + 1) = escN s.data.toList k ++ ([92, s[k]'hlt] : List UInt8) := by rw [escN_succ, hb]; simp [HE]
          rw [he]
          refine Or.inr ?_
          simpa [Lib.byteCells_append, Lib.byteCells] using h2
        case measure => simp [intOf]; omega
      · have hsp' : ((s[k]'hlt) == 92 || (s[k]'hlt) == 123 || (s[k]'hlt) == 125 || (s[k]'hlt) == 124) = false := by
          have : (((s[k]'hlt).toNat : Int).toNat.toUInt8) = s[k]'hlt := by simp
          rw [this, decide_eq_false hS] at hsp
          exact hsp.symm
        by_cases hk0 : k = 0
        · subst hk0
          by_cases h46 : ((s[0]'hlt).toNat : Int) = 46
          · have HE : escB 0 (s[0]'hlt) = true := by
              have : s[0]'hlt = 46 := UInt8.toNat_inj.1 (by simpa using (by omega : (s[0]'hlt).toNat = 46))
              unfold escB; rw [this]; rfl
            go_wp2_with (first | (go_at_call 18; refine (Tryd.strings_IndexByte _ _ _).mono ?_) | (go_at_call 19; refine (wb_k w.heap.size w.heap.size _ 92 _ hI (by rw [Lib.byteCells_length]; omega) hsz).mono ?_))
            rintro e W1 ⟨rfl, h1, b1⟩
            have hsz1 : w.heap.size ≤ W1.heap.size := Nat.le_trans hsz b1.size
            go_wp2_with (go_at_call 19; refine (wb_k w.heap.size w.heap.size _ _ _ (Or.inr h1) (by rw [List.length_append, Lib.byteCells_length]; simp; omega) hsz1).mono ?_)
            rintro e W2 ⟨rfl, h2, b2⟩
            go_wp2
            go_roundw
            case rel =>
              refine ⟨0 + 1, by omega, by go_num, ?_, (hbw.trans b1).trans b2⟩
              have he : escN s.data.toList (0 + 1) = escN s.data.toList 0 ++ ([92, s[0]'hlt] : List UInt8) := by rw [escN_succ, hb]; simp [HE]
              rw [he]
              refine Or.inr ?_
              simpa [Lib.byteCells_append, Lib.byteCells, h46] using h2
            case measure => simp [intOf]; omega
          · by_cases h35 : ((s[0]'hlt).toNat : Int) = 35
            · have HE : escB 0 (s[0]'hlt) = true := by
                have : s[0]'hlt = 35 := UInt8.toNat_inj.1 (by simpa using (by omega : (s[0]'hlt).toNat = 35))
                unfold escB; rw [this]; rfl
              go_wp2_with (first | (go_at_call 18; refine (Tryd.strings_IndexByte _ _ _).mono ?_) | (go_at_call 19; refine (wb_k w.heap.size w.heap.size _ 92 _ hI (by rw [Lib.byteCells_length]; omega) hsz).mono ?_))
              rintro e W1 ⟨rfl, h1, b1⟩
              have hsz1 : w.heap.size ≤ W1.heap.size := Nat.le_trans hsz b1.size
              go_wp2_with (go_at_call 19; refine (wb_k w.heap.size w.heap.size _ _ _ (Or.inr h1) (by rw [List.length_append, Lib.byteCells_length]; simp; omega) hsz1).mono ?_)
              rintro e W2 ⟨rfl, h2, b2⟩
              go_wp2
              go_roundw
              case rel =>
                refine ⟨0 + 1, by omega, by go_num, ?_, (hbw.trans b1).trans b2⟩
                have he : escN s.data.toList (0 + 1) = escN s.data.toList 0 ++ ([92, s[0]'hlt] : List UInt8) := by rw [escN_succ, hb]; simp [HE]
                rw [he]
                refine Or.inr ?_
                simpa [Lib.byteCells_append, Lib.byteCells, h35] using h2
              case measure => simp [intOf]; omega
            · have HE : escB 0 (s[0]'hlt) = false := by
                have h1 : s[0]'hlt ≠ 46 := fun e => h46 (by rw [e]; rfl)
                have h2 : s[0]'hlt ≠ 35 := fun e => h35 (by rw [e]; rfl)
                unfold escB; rw [hsp']; simp [h1, h2]
              go_wp2_with (first | (go_at_call 18; refine (Tryd.strings_IndexByte _ _ _).mono ?_) | (go_at_call 19; refine (wb_k w.heap.size w.heap.size _ _ _ hI (by rw [Lib.byteCells_length]; omega) hsz).mono ?_))
              · exfalso
                have h : 0 ≤ Lib.indexByte [92, 123, 125, 124] (s[0]'hlt) ∨ (((s[0]'hlt).toNat : Int) == 46) = true ∨ (((s[0]'hlt).toNat : Int) == 35) = true := by assumption
                rcases h with h | h | h
                · omega
                · simp [h46] at h
                · simp [h35] at h
              rintro e W2 ⟨rfl, h2, b2⟩
              go_wp2
              go_roundw
              case rel =>
                refine ⟨0 + 1, by omega, by go_num, ?_, hbw.trans b2⟩
                have he : escN s.data.toList (0 + 1) = escN s.data.toList 0 ++ ([s[0]'hlt] : List UInt8) := by rw [escN_succ, hb]; simp [HE]
                rw [he]
                refine Or.inr ?_
                simpa [Lib.byteCells_append, Lib.byteCells] using h2
              case measure => simp [intOf]; omega
        · have HE : escB k (s[k]'hlt) = false := by
            unfold escB; rw [hsp']; simp [hk0]
          go_wp2_with (first | (go_at_call 18; refine (Tryd.strings_IndexByte _ _ _).mono ?_) | (go_at_call 19; refine (wb_k w.heap.size w.heap.size _ _ _ hI (by rw [Lib.byteCells_length]; omega) hsz).mono ?_))
          rintro e W2 ⟨rfl, h2, b2⟩
          go_wp2
          go_roundw
          case rel =>
            refine ⟨k + 1, by omega, by go_num, ?_, hbw.trans b2⟩
            have he : escN s.data.toList (k + 1) = escN s.data.toList k ++ ([s[k]'hlt] : List UInt8) := by rw [escN_succ, hb]; simp [HE]
            rw [he]
            refine Or.inr ?_
            simpa [Lib.byteCells_append, Lib.byteCells] using h2
          case measure => simp [intOf]; omega
    · have hke : k = s.size := by omega
      subst hke
      go_wp2_with (go_at_call 20; refine (Tryd.Builder_String_any_k w.heap.size w.heap.size _ _ hI hbw.size).mono ?_)
      rintro e W1 ⟨rfl, _, b1, _⟩
      go_wp2
      go_ret
      exact ⟨rfl, hbw.trans b1⟩
end Go.Fn
/- text.Plain, walked. -/
namespace Go.Fn
open Go Go.Proofs Go.Shelf Go.RowKit

def ctlB (r : Int) : Bool := decide (r < 32) || (decide (127 ≤ r) && decide (r ≤ 159))
set_option maxHeartbeats 1000000 in
set_option maxRecDepth 100000 in
theorem control_walk (r : Int) (w : World) : Calls Tryd.prog 27 #[.int .i32 r] w fun e w' => e = .returned (.bool (ctlB r)) ∧ w' = w := by
  have t21 := Tryd.underlying21; have a21 := Tryd.isAgg21; have z21 := Tryd.sizeOf21; have v21 := Tryd.zeroValue21; have u21 := run_underlying Tryd.underlying21
  have t4 := Tryd.underlying4; have a4 := Tryd.isAgg4; have z4 := Tryd.sizeOf4; have v4 := Tryd.zeroValue4; have u4 := run_underlying Tryd.underlying4
  go_enter Tryd.func27, Tryd.ntmps27
  go_wp2
  all_goals go_ret
  all_goals refine ⟨?_, rfl⟩
  all_goals (first | (simp_all [ctlB]; done) | (simp_all [ctlB]; omega))
def badB (s : ByteArray) (p : Nat) : Bool := decide (((Lib.decodeGo (s.extract p s.size)).1 : Int) = 65533) && (((Lib.decodeGo (s.extract p s.size)).2 : Int) == 1)
set_option maxHeartbeats 1000000 in
set_option maxRecDepth 100000 in
theorem bad_walk (s : ByteArray) (p : Nat) (w : World) (hT : Lib.Utf8Tabs 1 2 w) (hp : p ≤ s.size) : Calls Tryd.prog 28 #[.string s, .int .i64 p] w fun e w' => e = .returned (.bool (badB s p)) ∧ Below w.heap.size w w' := by
  have t9 := Tryd.underlying9; have a9 := Tryd.isAgg9; have z9 := Tryd.sizeOf9; have v9 := Tryd.zeroValue9; have u9 := run_underlying Tryd.underlying9
  have t3 := Tryd.underlying3; have a3 := Tryd.isAgg3; have z3 := Tryd.sizeOf3; have v3 := Tryd.zeroValue3; have u3 := run_underlying Tryd.underlying3
  have t21 := Tryd.underlying21; have a21 := Tryd.isAgg21; have z21 := Tryd.sizeOf21; have v21 := Tryd.zeroValue21; have u21 := run_underlying Tryd.underlying21
  have t4 := Tryd.underlying4; have a4 := Tryd.isAgg4; have z4 := Tryd.sizeOf4; have v4 := Tryd.zeroValue4; have u4 := run_underlying Tryd.underlying4
  have t76 := Tryd.underlying76; have a76 := Tryd.isAgg76; have z76 := Tryd.sizeOf76; have u76 := run_underlying Tryd.underlying76
  go_enter Tryd.func28, Tryd.ntmps28
  go_wp2_with (go_at_call 43; refine (Tryd.utf8_DecodeRuneInString _ _ hT).mono ?_)
  rintro e W1 ⟨rfl, b1⟩
  go_wp2
  all_goals go_ret
  all_goals refine ⟨?_, b1⟩
  all_goals simp_all [badB]
theorem tabs_below {w w' : World} (h : Lib.Utf8Tabs 1 2 w) (hb : Below w.heap.size w w') : Lib.Utf8Tabs 1 2 w' := by
  have key : ∀ (g o : Nat) (v : Value), w.cell? ⟨g, o, none⟩ = some v → w'.cell? ⟨g, o, none⟩ = some v := fun g o v hv => by
    have hlt : g < w.heap.size := by
      rcases Nat.lt_or_ge g w.heap.size with h1 | h1
      · exact h1
      · simp [World.cell?, Array.getElem?_eq_none h1] at hv
    obtain ⟨_, _, _, _, h5⟩ := hb
    have := h5 g hlt
    unfold World.cell? at hv ⊢
    rw [this]
    exact hv
  exact ⟨fun c hc => key _ _ _ (h.1 c hc), fun i hi => ⟨key _ _ _ (h.2 i hi).1, key _ _ _ (h.2 i hi).2⟩⟩
def plainF (s : ByteArray) : Nat → Nat → Int × Bool
  | 0, _ => (0, true)
  | f + 1, p => if p < s.size then (if ctlB ((Utf8.decode s p).1 : Int) || (decide (((Utf8.decode s p).1 : Int) = 65533) && badB s p) then ((p : Int), false) else plainF s f (p + (Utf8.decode s p).2)) else (0, true)
theorem plainF_end (s : ByteArray) (f p : Nat) (h : ¬ p < s.size) : plainF s f p = (0, true) := by
  cases f with
  | zero => rfl
  | succ f => simp [plainF, h]
set_option maxHeartbeats 4000000 in
set_option maxRecDepth 1000000 in
theorem plain_walk (s : ByteArray) (w : World) (hT : Lib.Utf8Tabs 1 2 w) (hs : s.size ≤ 140737488355328) :
    Calls Tryd.prog 16 #[.string s] w fun e w' => e = .returned (.tuple #[.int .i64 (plainF s s.size 0).1, .bool (plainF s s.size 0).2]) ∧ Below w.heap.size w w' := by
  have t9 := Tryd.underlying9; have a9 := Tryd.isAgg9; have z9 := Tryd.sizeOf9; have v9 := Tryd.zeroValue9; have u9 := run_underlying Tryd.underlying9
  have t3 := Tryd.underlying3; have a3 := Tryd.isAgg3; have z3 := Tryd.sizeOf3; have v3 := Tryd.zeroValue3; have u3 := run_underlying Tryd.underlying3
  have t21 := Tryd.underlying21; have a21 := Tryd.isAgg21; have z21 := Tryd.sizeOf21; have v21 := Tryd.zeroValue21; have u21 := run_underlying Tryd.underlying21
  have t4 := Tryd.underlying4; have a4 := Tryd.isAgg4; have z4 := Tryd.sizeOf4; have v4 := Tryd.zeroValue4; have u4 := run_underlying Tryd.underlying4
  go_enter Tryd.func16, Tryd.ntmps16
  go_wp2
  go_loopw [] (fun wr => ∃ (pos fuel : Nat), wr.heap[w.heap.size]? = some (.stringIter s pos) ∧ Below w.heap.size w wr ∧ plainF s fuel pos = plainF s s.size 0 ∧ s.size ≤ pos + fuel) (fun wr => s.size - wr.iterPos w.heap.size)
  case atStart =>
    refine ⟨0, s.size, ?_, (Below.refl _ w).alloc (Nat.le_refl _) _, rfl, by omega⟩
    exact World.iter_heap w s 0
  case round =>
    obtain ⟨pos, fuel, hit, hbw, hacc, hfu⟩ := hrel
    by_cases hp : pos < s.size
    · have hnx : ∀ ty, (Instr.next (.pointer (some ⟨w.heap.size, 0, none⟩)) true ty).run Tryd.prog wr = _ := fun ty => Lib.run_next_any_at wr w.heap.size s pos ty hit hp
      have hwd := Lib.width_pos s pos
      have hit2 := Lib.iterAt_heap wr w.heap.size s pos (pos + (Utf8.decode s pos).2) hit
      have hbw2 := Lib.below_iterAt hbw (k := w.heap.size) (by omega) s (pos + (Utf8.decode s pos).2)
      have hTb := tabs_below hT hbw2
      obtain ⟨f, rfl⟩ : ∃ f, fuel = f + 1 := ⟨fuel - 1, by omega⟩
      cases hc : ctlB ((Utf8.decode s pos).1 : Int) with
      | true =>
        have hF : plainF s s.size 0 = ((pos : Int), false) := by rw [← hacc]; simp [plainF, hp, hc]
        go_wp2_with (go_at_call 27; refine (control_walk _ _).mono ?_)
        rintro e W1 ⟨rfl, rfl⟩
        rw [hc]
        go_wp2
        go_ret2
        rw [hF]
        exact ⟨rfl, hbw2⟩
      | false =>
        go_wp2_with (go_at_call 27; refine (control_walk _ _).mono ?_)
        rintro e W1 ⟨rfl, rfl⟩
        rw [hc]
        by_cases hr : ((Utf8.decode s pos).1 : Int) = 65533
        · cases hbd : badB s pos with
          | true =>
            have hF : plainF s s.size 0 = ((pos : Int), false) := by rw [← hacc]; simp [plainF, hp, hc, hr, hbd]
            go_wp2_with (go_at_call 28; refine (bad_walk s pos _ hTb (Nat.le_of_lt hp)).mono ?_)
            rintro e W2 ⟨rfl, b2⟩
            have b3 : Below w.heap.size _ W2 := (by obtain ⟨h1, h2, h3, h4, h5⟩ := b2; exact ⟨h1, h2, h3, h4, fun j hj => h5 j (Nat.lt_of_lt_of_le hj hbw2.size)⟩ : Below w.heap.size (wr.iterAt w.heap.size s (pos + (Utf8.decode s pos).2)) W2)
            rw [hbd]
            go_wp2
            go_ret2
            rw [hF]
            exact ⟨rfl, hbw2.trans b3⟩
          | false =>
            go_wp2_with (go_at_call 28; refine (bad_walk s pos _ hTb (Nat.le_of_lt hp)).mono ?_)
            rintro e W2 ⟨rfl, b2⟩
            have b3 : Below w.heap.size _ W2 := (by obtain ⟨h1, h2, h3, h4, h5⟩ := b2; exact ⟨h1, h2, h3, h4, fun j hj => h5 j (Nat.lt_of_lt_of_le hj hbw2.size)⟩ : Below w.heap.size (wr.iterAt w.heap.size s (pos + (Utf8.decode s pos).2)) W2)
            rw [hbd]
            have hit3 : W2.heap[w.heap.size]? = some (.stringIter s (pos + (Utf8.decode s pos).2)) := by
              obtain ⟨_, _, _, _, h5⟩ := b2
              rw [h5 _ (Array.getElem?_eq_some_iff.1 hit2).1]
              exact hit2
            go_wp2
            go_roundw
            case rel =>
              exact ⟨pos + (Utf8.decode s pos).2, f, hit3, hbw2.trans b3, by rw [← hacc]; simp [plainF, hp, hc, hbd], by omega⟩
            case measure =>
              simp only [World.iterPos, hit3, hit]
              omega
        · go_wp2
          go_roundw
          case rel =>
            exact ⟨pos + (Utf8.decode s pos).2, f, hit2, hbw2, by rw [← hacc]; simp [plainF, hp, hc, hr], by omega⟩
          case measure =>
            simp only [World.iterPos, hit2, hit]
            omega
    · have hnx : ∀ ty, (Instr.next (.pointer (some ⟨w.heap.size, 0, none⟩)) true ty).run Tryd.prog wr = _ := fun ty => Lib.run_next_end_at wr w.heap.size s pos ty hit hp
      go_wp2
      go_ret2
      rw [plainF_end s fuel pos hp] at hacc
      rw [← hacc]
      exact ⟨rfl, hbw⟩
end Go.Fn
/-
  From a contract of the library to an entry.
-/
namespace Go.Lf
open Go Go.Eng Go.RowKit

theorem argsR_gs {φ : Phi} {ps : List Par} {z : prodT (ps.map Par.ty)} {vals : List Value} {gs : List (Nat × Nat)} {hs : List Chunk} (h : ArgsR φ ps z vals gs hs) (ho : outs ps = []) : gs = [] := by
  induction h with
  | nil => rfl
  | val _ _ _ ih => exact ih ho
  | cfn _ ih => exact ih ho
  | obj _ _ _ => simp [outs] at ho
theorem hb_below {C : Cx} {w w' : World} {I : World → Prop} (hb : Hb C w [] I) (h : Below w.heap.size w w') : Hb C w' [] I :=
  hb.grow ⟨h.os, h.tape, h.output, h.size, fun k hk _ _ => h.block k hk, fun k m hk _ _ => Same.of_block (h.block k hk), fun c hc => (by cases hc)⟩
section
variable {P : Program} {G : World → Prop} {f : Nat} {ps : List Par} {rs : List Ty} {F : prodT (ps.map Par.ty) → Option (prodT (rs ++ outs ps))}
theorem drop_obs (ho : outs ps = []) (r : prodT (rs ++ outs ps)) : (unProd (rs ++ outs ps) r).drop rs.length = [] := by
  refine List.drop_eq_nil_of_le ?_
  have := congrArg List.length (unProd_tys (rs ++ outs ps) r)
  simp [ho] at this
  omega
/-- results that lean on no memory -/
theorem ent_calls (go : GoFn P f) (top : ∀ t, Par.val t ∈ ps → t.top = true) (ho : outs ps = [])
    (h : ∀ z r w φ vals gs hs, F z = some r → G w → ArgsR φ ps z vals gs hs → Calls P f vals.toArray w fun e w' => (∃ vs, e = .returned (resVal vs) ∧ TupR φ ((unProd (rs ++ outs ps) r).take rs.length) vs []) ∧ Below w.heap.size w w') : EntryOk P G f ⟨ps, rs, F⟩ := by
  refine ⟨go, top, fun z r hz C φ vals gs hs ha hb => ?_⟩
  have hb0 : Hb C C.w0 [] (Inv G φ) := (Sub.nil hs).hb hb
  refine (h z r C.w0 φ vals gs hs hz hb.get.1 ha).mono ?_
  rintro e w' ⟨⟨vs, rfl, ht⟩, hbl⟩
  have hg := argsR_gs ha ho
  subst hg
  refine ⟨_, φ, [], [], rfl, φ.le_refl, hb_below hb0 hbl, ⟨vs, ht, rfl⟩, ?_⟩
  rw [drop_obs ho]
  exact .nil
/-- one result: a new slice -/
theorem ent_row {t : Ty} {el : Nat} {F : prodT (ps.map Par.ty) → Option (prodT ([.sl t] ++ outs ps))} (go : GoFn P f) (top : ∀ t, Par.val t ∈ ps → t.top = true) (ho : outs ps = [])
    (h : ∀ z r w φ vals gs hs, F z = some r → G w → ArgsR φ ps z vals gs hs → Calls P f vals.toArray w fun e w' => (∃ (l : List t.den) (A : Addr) (css : List (List Value)), (unProd ([.sl t] ++ outs ps) r).take 1 = [⟨.sl t, l⟩] ∧ e = .returned (.slice (some A) l.length l.length) ∧ All2 (fun x cs => Rp φ t x cs []) l css ∧
      w'.ownsRow w.heap.size el t.size (.slice (some A) l.length l.length) l.length css.flatten) ∧ Below w.heap.size w w') : EntryOk P G f ⟨ps, [.sl t], F⟩ := by
  refine ⟨go, top, fun z r hz C φ vals gs hs ha hb => ?_⟩
  have hb0 : Hb C C.w0 [] (Inv G φ) := (Sub.nil hs).hb hb
  refine (h z r C.w0 φ vals gs hs hz hb.get.1 ha).mono ?_
  rintro e w' ⟨⟨l, A, css, hl, rfl, hall, hrow⟩, hbl⟩
  have hg := argsR_gs ha ho
  subst hg
  have hlt := World.ownsRow.lt hrow
  have hb1 : Hb C w' [.row false (.slice (some A) l.length l.length) el t.size l.length css.flatten] (Inv G φ) := by
    refine hb0.step ⟨hbl.os, hbl.tape, hbl.output, hbl.size, fun k hk _ _ => hbl.block k hk, fun k m hk _ _ => Same.of_block (hbl.block k hk), fun c hc => (by cases hc)⟩ (fun c hc => ?_) (fun c hc g hg => ?_) ?_ fun c hc => (by cases hc)
    · have : c = _ := List.mem_singleton.1 hc
      subst this
      refine ⟨hrow.1, ?_⟩
      rcases hrow.2 with h2 | ⟨g, cap, cur, hv, hg, r⟩
      · exact .inl h2
      · exact .inr ⟨g, cap, cur, hv, Nat.zero_le _, r⟩
    · have : c = _ := List.mem_singleton.1 hc
      subst this
      exact .inr (hlt g hg).1
    · exact List.pairwise_singleton _ _
  obtain ⟨φ', f1, f2, f3⟩ := freeze_row hb1
  refine ⟨_, φ', [], [], rfl, f1, f3, ⟨[.slice (some A) l.length l.length], ?_, rfl⟩, ?_⟩
  · show TupR φ' ((unProd ([.sl t] ++ outs ps) r).take 1) _ _
    rw [hl]
    exact TupR.cons (t := .sl t) (x := l) (cs := [.slice (some A) l.length l.length]) (h := []) (hs := []) rfl ⟨some A, l.length, css, rfl, Nat.le_refl _, hall.imp fun _ _ h => h.mono f1, f2, rfl⟩ .nil
  · have : (unProd ([.sl t] ++ outs ps) r).drop ([Ty.sl t]).length = [] := drop_obs (rs := [.sl t]) ho r
    show ObsR φ' [] ((unProd ([.sl t] ++ outs ps) r).drop ([Ty.sl t]).length) []
    rw [this]
    exact .nil
end
end Go.Lf
/- The library's functions, and two of the program's own that were walked, as entries. -/
namespace Go.Fn
open Go Go.Lf Go.Eng Go.RowKit Go.Proofs Go.Shelf

/-- what the world holds -/
def GG (w : World) : Prop := Lib.Utf8Tabs 1 2 w ∧ w.ShapedOpen Tryd.prog
theorem below_drawn {w : World} (n : Nat) : Below w.heap.size w (w.drewN n) := ⟨rfl, rfl, rfl, Nat.le_refl _, fun _ _ => rfl⟩
def mark_Escape (a0 : List UInt8) : Option (List UInt8) := if a0.length ≤ 70368744177664 then some (escN a0 a0.length) else none
def mark_EscapeEnt : Nat × Entry := (9, ⟨[.val .str], [.str], fun z => mark_Escape z⟩)
theorem mark_Escape_ok : EntryOk Tryd.prog GG 9 mark_EscapeEnt.2 := by
  refine ent_calls (ps := [.val .str]) (rs := [.str]) (GoFn.mk Tryd.f9 (by kernel_rfl) (by kernel_rfl) (by kernel_rfl)) (by simp [Ty.top]) rfl fun (a0 : List UInt8) r w φ vals gs hs hz hG ha => ?_
  have hz : mark_Escape a0 = some r := hz
  unfold mark_Escape at hz
  split at hz
  case isFalse => cases hz
  case isTrue hC =>
  injection hz with hz
  subst hz
  cases ha with
  | val h01 h02 h03 =>
  cases h03
  obtain ⟨rfl, _⟩ := h02
  refine (esc_walk ⟨a0.toArray⟩ w (Nat.le_trans (Nat.le_of_eq (Eng.str_size a0)) hC)).mono ?_
  rintro e w' ⟨rfl, hb⟩
  exact ⟨⟨[Eng.str (escN a0 a0.length)], rfl, (TupR.cons (t := .str) (cs := [_]) (h := []) (hs := []) rfl ⟨rfl, rfl⟩ .nil)⟩, hb⟩
def text_Plain (a0 : List UInt8) : Option (Int × Bool) := if a0.length ≤ 140737488355328 then some (plainF ⟨a0.toArray⟩ a0.length 0) else none
def text_PlainEnt : Nat × Entry := (16, ⟨[.val .str], [.int .i64, .bool], fun z => text_Plain z⟩)
theorem text_Plain_ok : EntryOk Tryd.prog GG 16 text_PlainEnt.2 := by
  refine ent_calls (ps := [.val .str]) (rs := [.int .i64, .bool]) (GoFn.mk Tryd.f16 (by kernel_rfl) (by kernel_rfl) (by kernel_rfl)) (by simp [Ty.top]) rfl fun (a0 : List UInt8) r w φ vals gs hs hz hG ha => ?_
  have hz : text_Plain a0 = some r := hz
  unfold text_Plain at hz
  split at hz
  case isFalse => cases hz
  case isTrue hC =>
  injection hz with hz
  subst hz
  cases ha with
  | val h01 h02 h03 =>
  cases h03
  obtain ⟨rfl, _⟩ := h02
  refine (plain_walk ⟨a0.toArray⟩ w hG.1 (Nat.le_trans (Nat.le_of_eq (Eng.str_size a0)) hC)).mono ?_
  rintro e w' ⟨rfl, hb⟩
  exact ⟨⟨[.int .i64 ((plainF ⟨a0.toArray⟩ a0.length 0).1), .bool ((plainF ⟨a0.toArray⟩ a0.length 0).2)], rfl, (TupR.cons (t := .int .i64) (cs := [_]) (h := []) (hs := []) rfl ⟨rfl, rfl⟩ (TupR.cons (t := .bool) (cs := [_]) (h := []) (hs := []) rfl ⟨rfl, rfl⟩ .nil))⟩, hb⟩
def strings_Contains (a0 : List UInt8) (a1 : List UInt8) : Option (Bool) := if a0.length < 4294967281 then some (Lib.contains a0 a1) else none
def strings_ContainsEnt : Nat × Entry := (17, ⟨[.val .str, .val .str], [.bool], fun z => strings_Contains z.1 z.2⟩)
theorem strings_Contains_ok : EntryOk Tryd.prog GG 17 strings_ContainsEnt.2 := by
  refine ent_calls (ps := [.val .str, .val .str]) (rs := [.bool]) (GoFn.mk Tryd.f17 (by kernel_rfl) (by kernel_rfl) (by kernel_rfl)) (by simp [Ty.top]) rfl fun z r w φ vals gs hs hz hG ha => ?_
  have hz : strings_Contains z.1 z.2 = some r := hz
  unfold strings_Contains at hz
  split at hz
  case isFalse => cases hz
  case isTrue hC =>
  injection hz with hz
  subst hz
  cases ha with
  | val h01 h02 h03 =>
  cases h03 with
  | val h11 h12 h13 =>
  cases h13
  obtain ⟨rfl, _⟩ := h02
  obtain ⟨rfl, _⟩ := h12
  obtain ⟨(a0 : List UInt8), (a1 : List UInt8)⟩ := z
  refine (Tryd.strings_Contains_shaped ⟨a0.toArray⟩ ⟨a1.toArray⟩ w hG.2 (Nat.lt_of_le_of_lt (Nat.le_of_eq (Eng.str_size a0)) hC)).mono ?_
  rintro e w' ⟨rfl, rfl⟩
  exact ⟨⟨[.bool (Lib.contains a0 a1)], rfl, (TupR.cons (t := .bool) (cs := [_]) (h := []) (hs := []) rfl ⟨rfl, rfl⟩ .nil)⟩, Below.refl _ _⟩
def strings_IndexByte (a0 : List UInt8) (a1 : Int) : Option (Int) := if True then some (Lib.indexByte a0 a1.toNat.toUInt8) else none
def strings_IndexByteEnt : Nat × Entry := (18, ⟨[.val .str, .val (.int .u8)], [.int .i64], fun z => strings_IndexByte z.1 z.2⟩)
theorem strings_IndexByte_ok : EntryOk Tryd.prog GG 18 strings_IndexByteEnt.2 := by
  refine ent_calls (ps := [.val .str, .val (.int .u8)]) (rs := [.int .i64]) (GoFn.mk Tryd.f18 (by kernel_rfl) (by kernel_rfl) (by kernel_rfl)) (by simp [Ty.top]) rfl fun z r w φ vals gs hs hz hG ha => ?_
  have hz : strings_IndexByte z.1 z.2 = some r := hz
  unfold strings_IndexByte at hz
  split at hz
  case isFalse => cases hz
  case isTrue hC =>
  injection hz with hz
  subst hz
  cases ha with
  | val h01 h02 h03 =>
  cases h03 with
  | val h11 h12 h13 =>
  cases h13
  obtain ⟨rfl, _⟩ := h02
  obtain ⟨rfl, _⟩ := h12
  obtain ⟨(a0 : List UInt8), (a1 : Int)⟩ := z
  refine (Tryd.strings_IndexByte ⟨a0.toArray⟩ a1 w).mono ?_
  rintro e w' ⟨rfl, rfl⟩
  exact ⟨⟨[.int .i64 (Lib.indexByte a0 a1.toNat.toUInt8)], rfl, (TupR.cons (t := .int .i64) (cs := [_]) (h := []) (hs := []) rfl ⟨rfl, rfl⟩ .nil)⟩, Below.refl _ _⟩
def strings_Cut (a0 : List UInt8) (a1 : List UInt8) : Option (List UInt8 × List UInt8 × Bool) := if a0.length < 4294967281 then some (Lib.cut a0 a1) else none
def strings_CutEnt : Nat × Entry := (23, ⟨[.val .str, .val .str], [.str, .str, .bool], fun z => strings_Cut z.1 z.2⟩)
theorem strings_Cut_ok : EntryOk Tryd.prog GG 23 strings_CutEnt.2 := by
  refine ent_calls (ps := [.val .str, .val .str]) (rs := [.str, .str, .bool]) (GoFn.mk Tryd.f23 (by kernel_rfl) (by kernel_rfl) (by kernel_rfl)) (by simp [Ty.top]) rfl fun z r w φ vals gs hs hz hG ha => ?_
  have hz : strings_Cut z.1 z.2 = some r := hz
  unfold strings_Cut at hz
  split at hz
  case isFalse => cases hz
  case isTrue hC =>
  injection hz with hz
  subst hz
  cases ha with
  | val h01 h02 h03 =>
  cases h03 with
  | val h11 h12 h13 =>
  cases h13
  obtain ⟨rfl, _⟩ := h02
  obtain ⟨rfl, _⟩ := h12
  obtain ⟨(a0 : List UInt8), (a1 : List UInt8)⟩ := z
  refine (Tryd.strings_Cut_shaped ⟨a0.toArray⟩ ⟨a1.toArray⟩ w hG.2 (Nat.lt_of_le_of_lt (Nat.le_of_eq (Eng.str_size a0)) hC)).mono ?_
  rintro e w' ⟨rfl, n, rfl⟩
  exact ⟨⟨[Eng.str ((Lib.cut a0 a1).1), Eng.str ((Lib.cut a0 a1).2.1), .bool ((Lib.cut a0 a1).2.2)], rfl, (TupR.cons (t := .str) (cs := [_]) (h := []) (hs := []) rfl ⟨rfl, rfl⟩ (TupR.cons (t := .str) (cs := [_]) (h := []) (hs := []) rfl ⟨rfl, rfl⟩ (TupR.cons (t := .bool) (cs := [_]) (h := []) (hs := []) rfl ⟨rfl, rfl⟩ .nil)))⟩, below_drawn n⟩
def strings_TrimSuffix (a0 : List UInt8) (a1 : List UInt8) : Option (List UInt8) := if a0.length ≤ 9223372036854775807 then some (Lib.trimSuffix a0 a1) else none
def strings_TrimSuffixEnt : Nat × Entry := (24, ⟨[.val .str, .val .str], [.str], fun z => strings_TrimSuffix z.1 z.2⟩)
theorem strings_TrimSuffix_ok : EntryOk Tryd.prog GG 24 strings_TrimSuffixEnt.2 := by
  refine ent_calls (ps := [.val .str, .val .str]) (rs := [.str]) (GoFn.mk Tryd.f24 (by kernel_rfl) (by kernel_rfl) (by kernel_rfl)) (by simp [Ty.top]) rfl fun z r w φ vals gs hs hz hG ha => ?_
  have hz : strings_TrimSuffix z.1 z.2 = some r := hz
  unfold strings_TrimSuffix at hz
  split at hz
  case isFalse => cases hz
  case isTrue hC =>
  injection hz with hz
  subst hz
  cases ha with
  | val h01 h02 h03 =>
  cases h03 with
  | val h11 h12 h13 =>
  cases h13
  obtain ⟨rfl, _⟩ := h02
  obtain ⟨rfl, _⟩ := h12
  obtain ⟨(a0 : List UInt8), (a1 : List UInt8)⟩ := z
  refine (Tryd.strings_TrimSuffix ⟨a0.toArray⟩ ⟨a1.toArray⟩ w (Nat.le_trans (Nat.le_of_eq (Eng.str_size a0)) hC)).mono ?_
  rintro e w' ⟨rfl, rfl⟩
  exact ⟨⟨[Eng.str (Lib.trimSuffix a0 a1)], rfl, (TupR.cons (t := .str) (cs := [_]) (h := []) (hs := []) rfl ⟨rfl, rfl⟩ .nil)⟩, Below.refl _ _⟩
def strings_HasPrefix (a0 : List UInt8) (a1 : List UInt8) : Option (Bool) := if True then some (Lib.hasPrefix a0 a1) else none
def strings_HasPrefixEnt : Nat × Entry := (38, ⟨[.val .str, .val .str], [.bool], fun z => strings_HasPrefix z.1 z.2⟩)
theorem strings_HasPrefix_ok : EntryOk Tryd.prog GG 38 strings_HasPrefixEnt.2 := by
  refine ent_calls (ps := [.val .str, .val .str]) (rs := [.bool]) (GoFn.mk Tryd.f38 (by kernel_rfl) (by kernel_rfl) (by kernel_rfl)) (by simp [Ty.top]) rfl fun z r w φ vals gs hs hz hG ha => ?_
  have hz : strings_HasPrefix z.1 z.2 = some r := hz
  unfold strings_HasPrefix at hz
  split at hz
  case isFalse => cases hz
  case isTrue hC =>
  injection hz with hz
  subst hz
  cases ha with
  | val h01 h02 h03 =>
  cases h03 with
  | val h11 h12 h13 =>
  cases h13
  obtain ⟨rfl, _⟩ := h02
  obtain ⟨rfl, _⟩ := h12
  obtain ⟨(a0 : List UInt8), (a1 : List UInt8)⟩ := z
  refine (Tryd.strings_HasPrefix ⟨a0.toArray⟩ ⟨a1.toArray⟩ w).mono ?_
  rintro e w' ⟨rfl, rfl⟩
  exact ⟨⟨[.bool (Lib.hasPrefix a0 a1)], rfl, (TupR.cons (t := .bool) (cs := [_]) (h := []) (hs := []) rfl ⟨rfl, rfl⟩ .nil)⟩, Below.refl _ _⟩
def strings_Trim (a0 : List UInt8) (a1 : List UInt8) : Option (List UInt8) := if a0.length ≤ 9223372036854775807 ∧ a1.length < 4294967281 ∧ a1.all (fun b => decide (b.toNat < 128)) = true then some (Lib.trimS a0 a1) else none
def strings_TrimEnt : Nat × Entry := (39, ⟨[.val .str, .val .str], [.str], fun z => strings_Trim z.1 z.2⟩)
theorem strings_Trim_ok : EntryOk Tryd.prog GG 39 strings_TrimEnt.2 := by
  refine ent_calls (ps := [.val .str, .val .str]) (rs := [.str]) (GoFn.mk Tryd.f39 (by kernel_rfl) (by kernel_rfl) (by kernel_rfl)) (by simp [Ty.top]) rfl fun z r w φ vals gs hs hz hG ha => ?_
  have hz : strings_Trim z.1 z.2 = some r := hz
  unfold strings_Trim at hz
  split at hz
  case isFalse => cases hz
  case isTrue hC =>
  injection hz with hz
  subst hz
  cases ha with
  | val h01 h02 h03 =>
  cases h03 with
  | val h11 h12 h13 =>
  cases h13
  obtain ⟨rfl, _⟩ := h02
  obtain ⟨rfl, _⟩ := h12
  obtain ⟨(a0 : List UInt8), (a1 : List UInt8)⟩ := z
  refine (Any.strings_Trim_laid Tryd.lays160 (by kernel_rfl) ⟨a0.toArray⟩ ⟨a1.toArray⟩ w (Nat.le_trans (Nat.le_of_eq (Eng.str_size a0)) hC.1) (Nat.lt_of_le_of_lt (Nat.le_of_eq (Eng.str_size a1)) hC.2.1) (ascii_of_all hC.2.2)).mono ?_
  rintro e w' ⟨rfl, hb⟩
  exact ⟨⟨[Eng.str (Lib.trimS a0 a1)], rfl, (TupR.cons (t := .str) (cs := [_]) (h := []) (hs := []) rfl ⟨rfl, rfl⟩ .nil)⟩, hb⟩
def strings_ReplaceAll (a0 : List UInt8) (a1 : List UInt8) (a2 : List UInt8) : Option (List UInt8) := if a0.length < 4294967281 ∧ 1 ≤ a1.length ∧ a0.length + Lib.countB ⟨a0.toArray⟩ ⟨a1.toArray⟩ * a2.length ≤ 140737488355328 then some (Lib.replaceAll a0 a1 a2) else none
def strings_ReplaceAllEnt : Nat × Entry := (50, ⟨[.val .str, .val .str, .val .str], [.str], fun z => strings_ReplaceAll z.1 z.2.1 z.2.2⟩)
theorem strings_ReplaceAll_ok : EntryOk Tryd.prog GG 50 strings_ReplaceAllEnt.2 := by
  refine ent_calls (ps := [.val .str, .val .str, .val .str]) (rs := [.str]) (GoFn.mk Tryd.f50 (by kernel_rfl) (by kernel_rfl) (by kernel_rfl)) (by simp [Ty.top]) rfl fun z r w φ vals gs hs hz hG ha => ?_
  have hz : strings_ReplaceAll z.1 z.2.1 z.2.2 = some r := hz
  unfold strings_ReplaceAll at hz
  split at hz
  case isFalse => cases hz
  case isTrue hC =>
  injection hz with hz
  subst hz
  cases ha with
  | val h01 h02 h03 =>
  cases h03 with
  | val h11 h12 h13 =>
  cases h13 with
  | val h21 h22 h23 =>
  cases h23
  obtain ⟨rfl, _⟩ := h02
  obtain ⟨rfl, _⟩ := h12
  obtain ⟨rfl, _⟩ := h22
  obtain ⟨(a0 : List UInt8), (a1 : List UInt8), (a2 : List UInt8)⟩ := z
  refine (Tryd.strings_ReplaceAll_shaped ⟨a0.toArray⟩ ⟨a1.toArray⟩ ⟨a2.toArray⟩ w hG.2 (Nat.lt_of_le_of_lt (Nat.le_of_eq (Eng.str_size a0)) hC.1) (Nat.le_trans hC.2.1 (Nat.le_of_eq (Eng.str_size a1).symm)) (by have e0 := Eng.str_size a0; have e2 := Eng.str_size a2; rw [e0, e2]; exact hC.2.2)).mono ?_
  rintro e w' ⟨rfl, hb⟩
  exact ⟨⟨[Eng.str (Lib.replaceAll a0 a1 a2)], rfl, (TupR.cons (t := .str) (cs := [_]) (h := []) (hs := []) rfl ⟨rfl, rfl⟩ .nil)⟩, hb⟩
def utf8_DecodeRuneInString (a0 : List UInt8) : Option (Int × Int) := if True then some ((((Lib.decodeGo ⟨a0.toArray⟩).1 : Int), ((Lib.decodeGo ⟨a0.toArray⟩).2 : Int))) else none
def utf8_DecodeRuneInStringEnt : Nat × Entry := (43, ⟨[.val .str], [.int .i32, .int .i64], fun z => utf8_DecodeRuneInString z⟩)
theorem utf8_DecodeRuneInString_ok : EntryOk Tryd.prog GG 43 utf8_DecodeRuneInStringEnt.2 := by
  refine ent_calls (ps := [.val .str]) (rs := [.int .i32, .int .i64]) (GoFn.mk Tryd.f43 (by kernel_rfl) (by kernel_rfl) (by kernel_rfl)) (by simp [Ty.top]) rfl fun (a0 : List UInt8) r w φ vals gs hs hz hG ha => ?_
  have hz : utf8_DecodeRuneInString a0 = some r := hz
  unfold utf8_DecodeRuneInString at hz
  split at hz
  case isFalse => cases hz
  case isTrue hC =>
  injection hz with hz
  subst hz
  cases ha with
  | val h01 h02 h03 =>
  cases h03
  obtain ⟨rfl, _⟩ := h02
  refine (Tryd.utf8_DecodeRuneInString ⟨a0.toArray⟩ w hG.1).mono ?_
  rintro e w' ⟨rfl, hb⟩
  exact ⟨⟨[.int .i32 (((((Lib.decodeGo ⟨a0.toArray⟩).1 : Int), ((Lib.decodeGo ⟨a0.toArray⟩).2 : Int))).1), .int .i64 (((((Lib.decodeGo ⟨a0.toArray⟩).1 : Int), ((Lib.decodeGo ⟨a0.toArray⟩).2 : Int))).2)], rfl, (TupR.cons (t := .int .i32) (cs := [_]) (h := []) (hs := []) rfl ⟨rfl, rfl⟩ (TupR.cons (t := .int .i64) (cs := [_]) (h := []) (hs := []) rfl ⟨rfl, rfl⟩ .nil))⟩, hb⟩
end Go.Fn
open Go Go.Lf
set_option maxRecDepth 10000
namespace Go.Fn
def Tys : List (Nat × Go.Lf.TyI) := [(2, ⟨(.int .i64), 0, 0⟩),
 (3, ⟨(.int .i64), 0, 0⟩),
 (4, ⟨.bool, 0, 0⟩),
 (5, ⟨(.int .u8), 0, 0⟩),
 (6, ⟨(.int .u8), 0, 0⟩),
 (7, ⟨(.st (.pr (.int .i64) (.pr (.int .i64) (.pr .bool (.pr (.int .u8) .unit))))), 0, 0⟩),
 (8, ⟨(.st (.pr (.int .i64) (.pr (.int .i64) (.pr .bool (.pr (.int .u8) .unit))))), 0, 0⟩),
 (9, ⟨.str, 0, 0⟩),
 (10, ⟨.str, 0, 0⟩),
 (11, ⟨.str, 0, 0⟩),
 (12, ⟨(.int .u64), 0, 0⟩),
 (13, ⟨(.st (.pr .str (.pr (.int .u64) .unit))), 0, 0⟩),
 (14, ⟨(.st (.pr .str (.pr (.int .u64) .unit))), 0, 0⟩),
 (21, ⟨(.int .i32), 0, 0⟩),
 (25, ⟨(.sl (.st (.pr (.int .i64) (.pr .str (.pr .str (.pr (.int .i64) (.pr (.int .i64) .unit))))))), 33, 56⟩),
 (27, ⟨(.eb 84 (.st (.pr (.int .i64) (.pr (.st (.pr (.int .i64) (.pr (.int .i64) (.pr (.int .i64) (.pr (.int .i64) (.pr .str (.pr (.sl (.st (.pr .str (.pr (.int .i64) .unit)))) .unit))))))) .unit)))), 0, 0⟩),
 (30, ⟨(.sl .str), 9, 16⟩),
 (32, ⟨(.st (.pr (.int .i64) (.pr .str (.pr .str (.pr (.int .i64) (.pr (.int .i64) .unit)))))), 0, 0⟩),
 (33, ⟨(.st (.pr (.int .i64) (.pr .str (.pr .str (.pr (.int .i64) (.pr (.int .i64) .unit)))))), 0, 0⟩),
 (39, ⟨(.sl (.int .i64)), 3, 8⟩),
 (42, ⟨(.sl (.int .u8)), 5, 1⟩),
 (49, ⟨(.st (.pr (.int .i64) (.pr (.int .i64) (.pr (.int .i64) (.pr .str .unit))))), 0, 0⟩),
 (50, ⟨(.st (.pr (.int .i64) (.pr (.int .i64) (.pr (.int .i64) (.pr .str .unit))))), 0, 0⟩),
 (52, ⟨(.int .i64), 0, 0⟩),
 (54, ⟨(.sl (.st (.pr .str (.pr (.int .i64) (.pr (.int .i64) .unit))))), 75, 32⟩),
 (55, ⟨(.st (.pr (.int .i64) (.pr (.int .i64) .unit))), 3, 2⟩),
 (56, ⟨(.st (.pr (.sl (.st (.pr (.int .i64) (.pr .str (.pr .str (.pr (.int .i64) (.pr (.int .i64) .unit))))))) (.pr (.sl (.st (.pr .str (.pr (.int .i64) (.pr (.int .i64) .unit))))) (.pr (.int .i64) (.pr (.st (.pr (.int .i64) (.pr .str (.pr .str (.pr (.int .i64) (.pr (.int .i64) .unit)))))) (.pr (.st (.pr (.int .i64) (.pr (.int .i64) .unit))) (.pr (.int .i64) (.pr (.int .i64) .unit)))))))), 0, 0⟩),
 (57, ⟨(.st (.pr (.sl (.st (.pr (.int .i64) (.pr .str (.pr .str (.pr (.int .i64) (.pr (.int .i64) .unit))))))) (.pr (.sl (.st (.pr .str (.pr (.int .i64) (.pr (.int .i64) .unit))))) (.pr (.int .i64) (.pr (.st (.pr (.int .i64) (.pr .str (.pr .str (.pr (.int .i64) (.pr (.int .i64) .unit)))))) (.pr (.st (.pr (.int .i64) (.pr (.int .i64) .unit))) (.pr (.int .i64) (.pr (.int .i64) .unit)))))))), 0, 0⟩),
 (67, ⟨(.sl (.st (.pr .str (.pr (.int .i64) .unit)))), 104, 24⟩),
 (68, ⟨(.st (.pr (.int .i64) (.pr (.int .i64) (.pr (.int .i64) (.pr (.int .i64) (.pr .str (.pr (.sl (.st (.pr .str (.pr (.int .i64) .unit)))) .unit))))))), 0, 0⟩),
 (69, ⟨(.st (.pr (.int .i64) (.pr (.int .i64) (.pr (.int .i64) (.pr (.int .i64) (.pr .str (.pr (.sl (.st (.pr .str (.pr (.int .i64) .unit)))) .unit))))))), 0, 0⟩),
 (71, ⟨(.sl (.st (.pr (.int .i64) (.pr (.int .i64) (.pr (.int .i64) (.pr (.int .i64) (.pr .str (.pr (.sl (.st (.pr .str (.pr (.int .i64) .unit)))) .unit)))))))), 69, 72⟩),
 (74, ⟨(.st (.pr .str (.pr (.int .i64) (.pr (.int .i64) .unit)))), 0, 0⟩),
 (75, ⟨(.st (.pr .str (.pr (.int .i64) (.pr (.int .i64) .unit)))), 0, 0⟩),
 (81, ⟨(.st (.pr (.int .i64) (.pr (.int .i64) (.pr (.sl (.st (.pr .str (.pr (.int .i64) .unit)))) .unit)))), 0, 0⟩),
 (82, ⟨(.st (.pr (.int .i64) (.pr (.int .i64) (.pr (.sl (.st (.pr .str (.pr (.int .i64) .unit)))) .unit)))), 0, 0⟩),
 (85, ⟨(.st (.pr (.int .i64) (.pr (.st (.pr (.int .i64) (.pr (.int .i64) (.pr (.int .i64) (.pr (.int .i64) (.pr .str (.pr (.sl (.st (.pr .str (.pr (.int .i64) .unit)))) .unit))))))) .unit))), 0, 0⟩),
 (86, ⟨(.st (.pr (.int .i64) (.pr (.st (.pr (.int .i64) (.pr (.int .i64) (.pr (.int .i64) (.pr (.int .i64) (.pr .str (.pr (.sl (.st (.pr .str (.pr (.int .i64) .unit)))) .unit))))))) .unit))), 0, 0⟩),
 (101, ⟨(.int .u64), 0, 0⟩),
 (103, ⟨(.st (.pr .str (.pr (.int .i64) .unit))), 0, 0⟩),
 (104, ⟨(.st (.pr .str (.pr (.int .i64) .unit))), 0, 0⟩),
 (105, ⟨(.st (.pr (.st (.pr .str (.pr (.int .i64) .unit))) (.pr (.eb 84 (.st (.pr (.int .i64) (.pr (.st (.pr (.int .i64) (.pr (.int .i64) (.pr (.int .i64) (.pr (.int .i64) (.pr .str (.pr (.sl (.st (.pr .str (.pr (.int .i64) .unit)))) .unit))))))) .unit)))) .unit))), 0, 0⟩),
 (106, ⟨(.st (.pr (.st (.pr .str (.pr (.int .i64) .unit))) (.pr (.eb 84 (.st (.pr (.int .i64) (.pr (.st (.pr (.int .i64) (.pr (.int .i64) (.pr (.int .i64) (.pr (.int .i64) (.pr .str (.pr (.sl (.st (.pr .str (.pr (.int .i64) .unit)))) .unit))))))) .unit)))) .unit))), 0, 0⟩),
 (108, ⟨(.st (.pr (.int .i64) (.pr (.eb 84 (.st (.pr (.int .i64) (.pr (.st (.pr (.int .i64) (.pr (.int .i64) (.pr (.int .i64) (.pr (.int .i64) (.pr .str (.pr (.sl (.st (.pr .str (.pr (.int .i64) .unit)))) .unit))))))) .unit)))) .unit))), 0, 0⟩),
 (109, ⟨(.st (.pr (.int .i64) (.pr (.eb 84 (.st (.pr (.int .i64) (.pr (.st (.pr (.int .i64) (.pr (.int .i64) (.pr (.int .i64) (.pr (.int .i64) (.pr .str (.pr (.sl (.st (.pr .str (.pr (.int .i64) .unit)))) .unit))))))) .unit)))) .unit))), 0, 0⟩),
 (114, ⟨(.sl (.eb 84 (.st (.pr (.int .i64) (.pr (.st (.pr (.int .i64) (.pr (.int .i64) (.pr (.int .i64) (.pr (.int .i64) (.pr .str (.pr (.sl (.st (.pr .str (.pr (.int .i64) .unit)))) .unit))))))) .unit))))), 27, 16⟩),
 (122, ⟨(.st (.pr (.int .u8) (.pr (.int .u8) .unit))), 0, 0⟩),
 (123, ⟨(.st (.pr (.st (.pr (.int .u8) (.pr (.int .u8) .unit))) (.pr (.st (.pr (.int .u8) (.pr (.int .u8) .unit))) (.pr (.st (.pr (.int .u8) (.pr (.int .u8) .unit))) (.pr (.st (.pr (.int .u8) (.pr (.int .u8) .unit))) (.pr (.st (.pr (.int .u8) (.pr (.int .u8) .unit))) (.pr (.st (.pr (.int .u8) (.pr (.int .u8) .unit))) (.pr (.st (.pr (.int .u8) (.pr (.int .u8) .unit))) (.pr (.st (.pr (.int .u8) (.pr (.int .u8) .unit))) (.pr (.st (.pr (.int .u8) (.pr (.int .u8) .unit))) (.pr (.st (.pr (.int .u8) (.pr (.int .u8) .unit))) (.pr (.st (.pr (.int .u8) (.pr (.int .u8) .unit))) (.pr (.st (.pr (.int .u8) (.pr (.int .u8) .unit))) (.pr (.st (.pr (.int .u8) (.pr (.int .u8) .unit))) (.pr (.st (.pr (.int .u8) (.pr (.int .u8) .unit))) (.pr (.st (.pr (.int .u8) (.pr (.int .u8) .unit))) (.pr (.st (.pr (.int .u8) (.pr (.int .u8) .unit))) .unit))))))))))))))))), 122, 16⟩),
 (124, ⟨(.int .u32), 0, 0⟩),
 (84, ⟨(.ptr (.st (.pr (.int .i64) (.pr (.st (.pr (.int .i64) (.pr (.int .i64) (.pr (.int .i64) (.pr (.int .i64) (.pr .str (.pr (.sl (.st (.pr .str (.pr (.int .i64) .unit)))) .unit))))))) .unit)))), 0, 0⟩),
 (102, ⟨(.ptr .unit), 0, 0⟩),
 (107, ⟨(.ptr .unit), 0, 0⟩),
 (111, ⟨(.eb 84 (.st (.pr (.int .i64) (.pr (.st (.pr (.int .i64) (.pr (.int .i64) (.pr (.int .i64) (.pr (.int .i64) (.pr .str (.pr (.sl (.st (.pr .str (.pr (.int .i64) .unit)))) .unit))))))) .unit)))), 0, 0⟩),
 (113, ⟨(.eb 84 (.st (.pr (.int .i64) (.pr (.st (.pr (.int .i64) (.pr (.int .i64) (.pr (.int .i64) (.pr (.int .i64) (.pr .str (.pr (.sl (.st (.pr .str (.pr (.int .i64) .unit)))) .unit))))))) .unit)))), 0, 0⟩)]
theorem Tys_ok : ∀ id i, Go.Lf.look Tys id = some i → Go.Lf.TyOk Go.Proofs.Tryd.prog id i := Go.Lf.tysB_ok (by kernel_rfl)
noncomputable def folioref04_EscapeCtx : Go.Lf.Ctx := ⟨59, Tys, [], [], [], []⟩
noncomputable def folioref04_EscapeCode : Go.Code := (Go.Proofs.Tryd.f10.body).getD .skip
def folioref04_EscapeAnn : Go.Lf.Ann := (.seq .no (.seq .no (.seq (.seq .no (.loop ⟨[0], [], [(4, (.int .i64)), (3, .str)], []⟩ (.one (.ext 0) ⟨[], [], [(3, .str)], []⟩) (.seq .no (.seq (.seq (.join (.one .nrm ⟨[0, 4], [], [(3, .str)], []⟩) (.seq (.join (.one .nrm ⟨[0, 4, 3], [], [(48, .bool)], []⟩) .no) .no)) .no) .no)))) .no)))
noncomputable def folioref04_Escape (a0 : List (UInt8)) : Option (List (UInt8)) :=
 (Go.Lf.loopC (σ := (Int) × (List (UInt8))) (κ := List (UInt8)) (fun z1 =>
     bif (decide (z1.1 < (((List.length a0) : Nat) : Int))) then ((((Go.Lf.idx a0 z1.1)).bind fun r2 =>
         bif (!(decide (((((UInt8.toNat r2) : Nat) : Int) : Int) = (92 : Int)))) then ((Go.Lf.idx a0 z1.1)).bind fun r3 =>
         bif (!(decide (((((UInt8.toNat r3) : Nat) : Int) : Int) = (123 : Int)))) then ((Go.Lf.idx a0 z1.1)).bind fun r4 =>
         bif (!(decide (((((UInt8.toNat r4) : Nat) : Int) : Int) = (125 : Int)))) then ((Go.Lf.idx a0 z1.1)).bind fun r5 =>
         bif (!(decide (((((UInt8.toNat r5) : Nat) : Int) : Int) = (124 : Int)))) then bif (decide ((z1.1 : Int) = (0 : Int))) then ((Go.Lf.idx a0 z1.1)).bind fun r6 =>
         bif (!(decide (((((UInt8.toNat r6) : Nat) : Int) : Int) = (46 : Int)))) then ((Go.Lf.idx a0 z1.1)).bind fun r7 =>
         some (decide (((((UInt8.toNat r7) : Nat) : Int) : Int) = (35 : Int)))
         else some true
         else some false
         else some true
         else some true
         else some true
         else some true).bind fun r8 =>
       bif r8 then ((Go.Lf.cat z1.2 ((92 : UInt8) :: ([] : List (UInt8))))).bind fun r9 =>
       some r9
       else some z1.2).bind fun r10 =>
     ((Go.Lf.sub a0 z1.1 (Go.IntKind.wrap .i64 (z1.1 + (1 : Int))))).bind fun r11 =>
     ((Go.Lf.cat r10 r11)).bind fun r12 =>
     some (.inl ((Go.IntKind.wrap .i64 (z1.1 + (1 : Int))), r12))
     else some (.inr z1.2)) ((0 : Int), ([] : List (UInt8))) : Option (List (UInt8))).bind fun r13 =>
 some r13
theorem folioref04_Escape_eq (a0 : List (UInt8)) : Go.Lf.fnE folioref04_EscapeCtx folioref04_EscapeCode folioref04_EscapeAnn [.val .str] [.str] [.tmp 2] (a0) = folioref04_Escape a0 := by kernel_rfl
noncomputable def folioref04_EscapeEnt : Nat × Go.Lf.Entry := (10, ⟨[.val .str], [.str], fun z => folioref04_Escape z⟩)
theorem folioref04_Escape_ok : Go.Lf.EntryOk Go.Proofs.Tryd.prog GG 10 folioref04_EscapeEnt.2 :=
  Go.Lf.fn_ok (c := folioref04_EscapeCtx) (code := folioref04_EscapeCode) (an := folioref04_EscapeAnn) (slots := [.tmp 2]) (fn := Go.Proofs.Tryd.f10) (by kernel_rfl) ⟨Tys_ok, Go.Lf.FnsOk.look .nil⟩ (by kernel_rfl) (by kernel_rfl) (by kernel_rfl) (by kernel_rfl) (by kernel_rfl) (Nat.le_of_ble_eq_true rfl) (by simp [Go.Lf.Ty.top]) (by simp [Go.Lf.Ty.top]) fun z r h => (folioref04_Escape_eq z).trans h
noncomputable def fault_NewCtx : Go.Lf.Ctx := ⟨22, Tys, [], [], [21], []⟩
noncomputable def fault_NewCode : Go.Code := (Go.Proofs.Tryd.f34.body).getD .skip
def fault_NewAnn : Go.Lf.Ann := .no
noncomputable def fault_New (a0 : Int) (a1 : Int) (a2 : Int) (a3 : Int) (a4 : List (UInt8)) : Option (Option ((Int) × (((Int) × ((Int) × ((Int) × ((Int) × ((List (UInt8)) × ((List ((List (UInt8)) × ((Int) × (Unit)))) × (Unit))))))) × (Unit)))) :=
 bif (decide ((a0 : Int) = (0 : Int))) then some (none : Option ((Int) × (((Int) × ((Int) × ((Int) × ((Int) × ((List (UInt8)) × ((List ((List (UInt8)) × ((Int) × (Unit)))) × (Unit))))))) × (Unit))))
 else some (some ((1 : Int), ((a0, (a1, (a2, (a3, (a4, (([] : List ((List (UInt8)) × ((Int) × (Unit)))), ())))))), ())))
theorem fault_New_eq (a0 : Int) (a1 : Int) (a2 : Int) (a3 : Int) (a4 : List (UInt8)) : Go.Lf.fnE fault_NewCtx fault_NewCode fault_NewAnn [.val (.int .i64), .val (.int .i64), .val (.int .i64), .val (.int .i64), .val .str] [(.eb 84 (.st (.pr (.int .i64) (.pr (.st (.pr (.int .i64) (.pr (.int .i64) (.pr (.int .i64) (.pr (.int .i64) (.pr .str (.pr (.sl (.st (.pr .str (.pr (.int .i64) .unit)))) .unit))))))) .unit))))] [.tmp 10] (a0, a1, a2, a3, a4) = fault_New a0 a1 a2 a3 a4 := by kernel_rfl
noncomputable def fault_NewEnt : Nat × Go.Lf.Entry := (34, ⟨[.val (.int .i64), .val (.int .i64), .val (.int .i64), .val (.int .i64), .val .str], [(.eb 84 (.st (.pr (.int .i64) (.pr (.st (.pr (.int .i64) (.pr (.int .i64) (.pr (.int .i64) (.pr (.int .i64) (.pr .str (.pr (.sl (.st (.pr .str (.pr (.int .i64) .unit)))) .unit))))))) .unit))))], fun z => fault_New z.1 z.2.1 z.2.2.1 z.2.2.2.1 z.2.2.2.2⟩)
theorem fault_New_ok : Go.Lf.EntryOk Go.Proofs.Tryd.prog GG 34 fault_NewEnt.2 :=
  Go.Lf.fn_ok (c := fault_NewCtx) (code := fault_NewCode) (an := fault_NewAnn) (slots := [.tmp 10]) (fn := Go.Proofs.Tryd.f34) (by kernel_rfl) ⟨Tys_ok, Go.Lf.FnsOk.look .nil⟩ (by kernel_rfl) (by kernel_rfl) (by kernel_rfl) (by kernel_rfl) (by kernel_rfl) (Nat.le_of_ble_eq_true rfl) (by simp [Go.Lf.Ty.top]) (by simp [Go.Lf.Ty.top]) fun z r h => (fault_New_eq z.1 z.2.1 z.2.2.1 z.2.2.2.1 z.2.2.2.2).trans h
noncomputable def mark_wrongCtx : Go.Lf.Ctx := ⟨14, Tys, [fault_NewEnt], [], [], []⟩
noncomputable def mark_wrongCode : Go.Code := (Go.Proofs.Tryd.f22.body).getD .skip
def mark_wrongAnn : Go.Lf.Ann := .no
noncomputable def mark_wrong (a0 : Int) (a1 : Int) (a2 : Int) (a3 : List (UInt8)) : Option (Option ((Int) × (((Int) × ((Int) × ((Int) × ((Int) × ((List (UInt8)) × ((List ((List (UInt8)) × ((Int) × (Unit)))) × (Unit))))))) × (Unit)))) :=
 ((Go.Fn.fault_New a0 (0 : Int) a1 a2 a3)).bind fun r1 =>
 some r1
theorem mark_wrong_eq (a0 : Int) (a1 : Int) (a2 : Int) (a3 : List (UInt8)) : Go.Lf.fnE mark_wrongCtx mark_wrongCode mark_wrongAnn [.val (.int .i64), .val (.int .i64), .val (.int .i64), .val .str] [(.eb 84 (.st (.pr (.int .i64) (.pr (.st (.pr (.int .i64) (.pr (.int .i64) (.pr (.int .i64) (.pr (.int .i64) (.pr .str (.pr (.sl (.st (.pr .str (.pr (.int .i64) .unit)))) .unit))))))) .unit))))] [.tmp 8] (a0, a1, a2, a3) = mark_wrong a0 a1 a2 a3 := by kernel_rfl
noncomputable def mark_wrongEnt : Nat × Go.Lf.Entry := (22, ⟨[.val (.int .i64), .val (.int .i64), .val (.int .i64), .val .str], [(.eb 84 (.st (.pr (.int .i64) (.pr (.st (.pr (.int .i64) (.pr (.int .i64) (.pr (.int .i64) (.pr (.int .i64) (.pr .str (.pr (.sl (.st (.pr .str (.pr (.int .i64) .unit)))) .unit))))))) .unit))))], fun z => mark_wrong z.1 z.2.1 z.2.2.1 z.2.2.2⟩)
theorem mark_wrong_ok : Go.Lf.EntryOk Go.Proofs.Tryd.prog GG 22 mark_wrongEnt.2 :=
  Go.Lf.fn_ok (c := mark_wrongCtx) (code := mark_wrongCode) (an := mark_wrongAnn) (slots := [.tmp 8]) (fn := Go.Proofs.Tryd.f22) (by kernel_rfl) ⟨Tys_ok, Go.Lf.FnsOk.look (.con fault_New_ok .nil)⟩ (by kernel_rfl) (by kernel_rfl) (by kernel_rfl) (by kernel_rfl) (by kernel_rfl) (Nat.le_of_ble_eq_true rfl) (by simp [Go.Lf.Ty.top]) (by simp [Go.Lf.Ty.top]) fun z r h => (mark_wrong_eq z.1 z.2.1 z.2.2.1 z.2.2.2).trans h
noncomputable def mark_lexer__checkCtx : Go.Lf.Ctx := ⟨30, Tys, [text_PlainEnt, mark_wrongEnt, strings_ReplaceAllEnt], [], [], []⟩
noncomputable def mark_lexer__checkCode : Go.Code := (Go.Proofs.Tryd.f37.body).getD .skip
def mark_lexer__checkAnn : Go.Lf.Ann := .no
noncomputable def mark_lexer__check (a0 : (List ((Int) × ((List (UInt8)) × ((List (UInt8)) × ((Int) × ((Int) × (Unit))))))) × ((List ((List (UInt8)) × ((Int) × ((Int) × (Unit))))) × ((Int) × (((Int) × ((List (UInt8)) × ((List (UInt8)) × ((Int) × ((Int) × (Unit)))))) × (((Int) × ((Int) × (Unit))) × ((Int) × ((Int) × (Unit)))))))) (a1 : List (UInt8)) : Option ((Option ((Int) × (((Int) × ((Int) × ((Int) × ((Int) × ((List (UInt8)) × ((List ((List (UInt8)) × ((Int) × (Unit)))) × (Unit))))))) × (Unit)))) × ((List ((Int) × ((List (UInt8)) × ((List (UInt8)) × ((Int) × ((Int) × (Unit))))))) × ((List ((List (UInt8)) × ((Int) × ((Int) × (Unit))))) × ((Int) × (((Int) × ((List (UInt8)) × ((List (UInt8)) × ((Int) × ((Int) × (Unit)))))) × (((Int) × ((Int) × (Unit))) × ((Int) × ((Int) × (Unit))))))))) :=
 bif (decide ((4096 : Int) < (((List.length a1) : Nat) : Int))) then ((Go.Fn.mark_wrong (2 : Int) a0.2.2.2.2.2.2.1 (1 : Int) ([] : List (UInt8)))).bind fun r1 =>
 some (r1, a0)
 else ((Go.Fn.strings_ReplaceAll a1 ((9 : UInt8) :: ([] : List (UInt8))) ((32 : UInt8) :: ([] : List (UInt8))))).bind fun r2 =>
 ((Go.Fn.text_Plain r2)).bind fun r3 =>
 bif (!r3.2) then ((Go.Fn.mark_wrong (40 : Int) a0.2.2.2.2.2.2.1 (Go.IntKind.wrap .i64 (r3.1 + (1 : Int))) ([] : List (UInt8)))).bind fun r4 =>
 some (r4, a0)
 else some ((none : Option ((Int) × (((Int) × ((Int) × ((Int) × ((Int) × ((List (UInt8)) × ((List ((List (UInt8)) × ((Int) × (Unit)))) × (Unit))))))) × (Unit)))), a0)
theorem mark_lexer__check_eq (a0 : (List ((Int) × ((List (UInt8)) × ((List (UInt8)) × ((Int) × ((Int) × (Unit))))))) × ((List ((List (UInt8)) × ((Int) × ((Int) × (Unit))))) × ((Int) × (((Int) × ((List (UInt8)) × ((List (UInt8)) × ((Int) × ((Int) × (Unit)))))) × (((Int) × ((Int) × (Unit))) × ((Int) × ((Int) × (Unit)))))))) (a1 : List (UInt8)) : Go.Lf.fnE mark_lexer__checkCtx mark_lexer__checkCode mark_lexer__checkAnn [.obj 57 (.st (.pr (.rw 33 (.st (.pr (.int .i64) (.pr .str (.pr .str (.pr (.int .i64) (.pr (.int .i64) .unit))))))) (.pr (.mr 75 (.st (.pr .str (.pr (.int .i64) (.pr (.int .i64) .unit))))) (.pr (.int .i64) (.pr (.st (.pr (.int .i64) (.pr .str (.pr .str (.pr (.int .i64) (.pr (.int .i64) .unit)))))) (.pr (.st (.pr (.int .i64) (.pr (.int .i64) .unit))) (.pr (.int .i64) (.pr (.int .i64) .unit)))))))) (.st (.pr (.rw 33 (.st (.pr (.int .i64) (.pr .str (.pr .str (.pr (.int .i64) (.pr (.int .i64) .unit))))))) (.pr (.mr 75 (.st (.pr .str (.pr (.int .i64) (.pr (.int .i64) .unit))))) (.pr (.int .i64) (.pr (.st (.pr (.int .i64) (.pr .str (.pr .str (.pr (.int .i64) (.pr (.int .i64) .unit)))))) (.pr (.st (.pr (.int .i64) (.pr (.int .i64) .unit))) (.pr (.int .i64) (.pr (.int .i64) .unit)))))))) [], .val .str] [(.eb 84 (.st (.pr (.int .i64) (.pr (.st (.pr (.int .i64) (.pr (.int .i64) (.pr (.int .i64) (.pr (.int .i64) (.pr .str (.pr (.sl (.st (.pr .str (.pr (.int .i64) .unit)))) .unit))))))) .unit))))] [.tmp 4] (a0, a1) = mark_lexer__check a0 a1 := by kernel_rfl
noncomputable def mark_lexer__checkEnt : Nat × Go.Lf.Entry := (37, ⟨[.obj 57 (.st (.pr (.rw 33 (.st (.pr (.int .i64) (.pr .str (.pr .str (.pr (.int .i64) (.pr (.int .i64) .unit))))))) (.pr (.mr 75 (.st (.pr .str (.pr (.int .i64) (.pr (.int .i64) .unit))))) (.pr (.int .i64) (.pr (.st (.pr (.int .i64) (.pr .str (.pr .str (.pr (.int .i64) (.pr (.int .i64) .unit)))))) (.pr (.st (.pr (.int .i64) (.pr (.int .i64) .unit))) (.pr (.int .i64) (.pr (.int .i64) .unit)))))))) (.st (.pr (.rw 33 (.st (.pr (.int .i64) (.pr .str (.pr .str (.pr (.int .i64) (.pr (.int .i64) .unit))))))) (.pr (.mr 75 (.st (.pr .str (.pr (.int .i64) (.pr (.int .i64) .unit))))) (.pr (.int .i64) (.pr (.st (.pr (.int .i64) (.pr .str (.pr .str (.pr (.int .i64) (.pr (.int .i64) .unit)))))) (.pr (.st (.pr (.int .i64) (.pr (.int .i64) .unit))) (.pr (.int .i64) (.pr (.int .i64) .unit)))))))) [], .val .str], [(.eb 84 (.st (.pr (.int .i64) (.pr (.st (.pr (.int .i64) (.pr (.int .i64) (.pr (.int .i64) (.pr (.int .i64) (.pr .str (.pr (.sl (.st (.pr .str (.pr (.int .i64) .unit)))) .unit))))))) .unit))))], fun z => mark_lexer__check z.1 z.2⟩)
theorem mark_lexer__check_ok : Go.Lf.EntryOk Go.Proofs.Tryd.prog GG 37 mark_lexer__checkEnt.2 :=
  Go.Lf.fn_ok (c := mark_lexer__checkCtx) (code := mark_lexer__checkCode) (an := mark_lexer__checkAnn) (slots := [.tmp 4]) (fn := Go.Proofs.Tryd.f37) (by kernel_rfl) ⟨Tys_ok, Go.Lf.FnsOk.look (.con text_Plain_ok (.con mark_wrong_ok (.con strings_ReplaceAll_ok .nil)))⟩ (by kernel_rfl) (by kernel_rfl) (by kernel_rfl) (by kernel_rfl) (by kernel_rfl) (Nat.le_of_ble_eq_true rfl) (by simp [Go.Lf.Ty.top]) (by simp [Go.Lf.Ty.top]) fun z r h => (mark_lexer__check_eq z.1 z.2).trans h
noncomputable def mark_lexer__flushCtx : Go.Lf.Ctx := ⟨25, Tys, [], [12], [], [(12, (.rw 33 (.st (.pr (.int .i64) (.pr .str (.pr .str (.pr (.int .i64) (.pr (.int .i64) .unit))))))))]⟩
noncomputable def mark_lexer__flushCode : Go.Code := (Go.Proofs.Tryd.f42.body).getD .skip
def mark_lexer__flushAnn : Go.Lf.Ann := (.seq (.join (.one .nrm ⟨[], [(0, 0, [], 0)], [], [(0, 57, (.st (.pr (.rw 33 (.st (.pr (.int .i64) (.pr .str (.pr .str (.pr (.int .i64) (.pr (.int .i64) .unit))))))) (.pr (.mr 75 (.st (.pr .str (.pr (.int .i64) (.pr (.int .i64) .unit))))) (.pr (.int .i64) (.pr (.st (.pr (.int .i64) (.pr .str (.pr .str (.pr (.int .i64) (.pr (.int .i64) .unit)))))) (.pr (.st (.pr (.int .i64) (.pr (.int .i64) .unit))) (.pr (.int .i64) (.pr (.int .i64) .unit)))))))))]⟩) (.seq .no (.cnd (.soup 10) .no))) .no)
noncomputable def mark_lexer__flush (a0 : (List ((Int) × ((List (UInt8)) × ((List (UInt8)) × ((Int) × ((Int) × (Unit))))))) × ((List ((List (UInt8)) × ((Int) × ((Int) × (Unit))))) × ((Int) × (((Int) × ((List (UInt8)) × ((List (UInt8)) × ((Int) × ((Int) × (Unit)))))) × (((Int) × ((Int) × (Unit))) × ((Int) × ((Int) × (Unit)))))))) : Option ((List ((Int) × ((List (UInt8)) × ((List (UInt8)) × ((Int) × ((Int) × (Unit))))))) × ((List ((List (UInt8)) × ((Int) × ((Int) × (Unit))))) × ((Int) × (((Int) × ((List (UInt8)) × ((List (UInt8)) × ((Int) × ((Int) × (Unit)))))) × (((Int) × ((Int) × (Unit))) × ((Int) × ((Int) × (Unit)))))))) :=
 (bif (decide ((a0.2.2.2.1.2.2.1 : List (UInt8)) ≠ ([] : List (UInt8)))) then ((Go.Lf.app (56 : Nat) a0.1 (a0.2.2.2.1 :: ([] : List ((Int) × ((List (UInt8)) × ((List (UInt8)) × ((Int) × ((Int) × (Unit)))))))))).bind fun r1 =>
   some (r1, a0.2)
   else some a0).bind fun r2 =>
 some (r2.1, (r2.2.1, (r2.2.2.1, (((0 : Int), (([] : List (UInt8)), (([] : List (UInt8)), ((0 : Int), ((0 : Int), ()))))), r2.2.2.2.2))))
theorem mark_lexer__flush_eq (a0 : (List ((Int) × ((List (UInt8)) × ((List (UInt8)) × ((Int) × ((Int) × (Unit))))))) × ((List ((List (UInt8)) × ((Int) × ((Int) × (Unit))))) × ((Int) × (((Int) × ((List (UInt8)) × ((List (UInt8)) × ((Int) × ((Int) × (Unit)))))) × (((Int) × ((Int) × (Unit))) × ((Int) × ((Int) × (Unit)))))))) : Go.Lf.fnE mark_lexer__flushCtx mark_lexer__flushCode mark_lexer__flushAnn [.obj 57 (.st (.pr (.rw 33 (.st (.pr (.int .i64) (.pr .str (.pr .str (.pr (.int .i64) (.pr (.int .i64) .unit))))))) (.pr (.mr 75 (.st (.pr .str (.pr (.int .i64) (.pr (.int .i64) .unit))))) (.pr (.int .i64) (.pr (.st (.pr (.int .i64) (.pr .str (.pr .str (.pr (.int .i64) (.pr (.int .i64) .unit)))))) (.pr (.st (.pr (.int .i64) (.pr (.int .i64) .unit))) (.pr (.int .i64) (.pr (.int .i64) .unit)))))))) (.st (.pr (.rw 33 (.st (.pr (.int .i64) (.pr .str (.pr .str (.pr (.int .i64) (.pr (.int .i64) .unit))))))) (.pr (.mr 75 (.st (.pr .str (.pr (.int .i64) (.pr (.int .i64) .unit))))) (.pr (.int .i64) (.pr (.st (.pr (.int .i64) (.pr .str (.pr .str (.pr (.int .i64) (.pr (.int .i64) .unit)))))) (.pr (.st (.pr (.int .i64) (.pr (.int .i64) .unit))) (.pr (.int .i64) (.pr (.int .i64) .unit)))))))) []] [] [] (a0) = mark_lexer__flush a0 := by kernel_rfl
noncomputable def mark_lexer__flushEnt : Nat × Go.Lf.Entry := (42, ⟨[.obj 57 (.st (.pr (.rw 33 (.st (.pr (.int .i64) (.pr .str (.pr .str (.pr (.int .i64) (.pr (.int .i64) .unit))))))) (.pr (.mr 75 (.st (.pr .str (.pr (.int .i64) (.pr (.int .i64) .unit))))) (.pr (.int .i64) (.pr (.st (.pr (.int .i64) (.pr .str (.pr .str (.pr (.int .i64) (.pr (.int .i64) .unit)))))) (.pr (.st (.pr (.int .i64) (.pr (.int .i64) .unit))) (.pr (.int .i64) (.pr (.int .i64) .unit)))))))) (.st (.pr (.rw 33 (.st (.pr (.int .i64) (.pr .str (.pr .str (.pr (.int .i64) (.pr (.int .i64) .unit))))))) (.pr (.mr 75 (.st (.pr .str (.pr (.int .i64) (.pr (.int .i64) .unit))))) (.pr (.int .i64) (.pr (.st (.pr (.int .i64) (.pr .str (.pr .str (.pr (.int .i64) (.pr (.int .i64) .unit)))))) (.pr (.st (.pr (.int .i64) (.pr (.int .i64) .unit))) (.pr (.int .i64) (.pr (.int .i64) .unit)))))))) []], [], fun z => mark_lexer__flush z⟩)
theorem mark_lexer__flush_ok : Go.Lf.EntryOk Go.Proofs.Tryd.prog GG 42 mark_lexer__flushEnt.2 :=
  Go.Lf.fn_ok (c := mark_lexer__flushCtx) (code := mark_lexer__flushCode) (an := mark_lexer__flushAnn) (slots := []) (fn := Go.Proofs.Tryd.f42) (by kernel_rfl) ⟨Tys_ok, Go.Lf.FnsOk.look .nil⟩ (by kernel_rfl) (by kernel_rfl) (by kernel_rfl) (by kernel_rfl) (by kernel_rfl) (Nat.le_of_ble_eq_true rfl) (by simp [Go.Lf.Ty.top]) (by simp [Go.Lf.Ty.top]) fun z r h => (mark_lexer__flush_eq z).trans h
noncomputable def mark_lexer__endCtx : Go.Lf.Ctx := ⟨41, Tys, [mark_wrongEnt, mark_lexer__flushEnt], [], [], []⟩
noncomputable def mark_lexer__endCode : Go.Code := (Go.Proofs.Tryd.f26.body).getD .skip
def mark_lexer__endAnn : Go.Lf.Ann := .no
noncomputable def mark_lexer__end (a0 : (List ((Int) × ((List (UInt8)) × ((List (UInt8)) × ((Int) × ((Int) × (Unit))))))) × ((List ((List (UInt8)) × ((Int) × ((Int) × (Unit))))) × ((Int) × (((Int) × ((List (UInt8)) × ((List (UInt8)) × ((Int) × ((Int) × (Unit)))))) × (((Int) × ((Int) × (Unit))) × ((Int) × ((Int) × (Unit)))))))) : Option ((Option ((Int) × (((Int) × ((Int) × ((Int) × ((Int) × ((List (UInt8)) × ((List ((List (UInt8)) × ((Int) × (Unit)))) × (Unit))))))) × (Unit)))) × ((List ((Int) × ((List (UInt8)) × ((List (UInt8)) × ((Int) × ((Int) × (Unit))))))) × ((List ((List (UInt8)) × ((Int) × ((Int) × (Unit))))) × ((Int) × (((Int) × ((List (UInt8)) × ((List (UInt8)) × ((Int) × ((Int) × (Unit)))))) × (((Int) × ((Int) × (Unit))) × ((Int) × ((Int) × (Unit))))))))) :=
 bif (decide ((a0.2.2.1 : Int) = (0 : Int))) then some ((none : Option ((Int) × (((Int) × ((Int) × ((Int) × ((Int) × ((List (UInt8)) × ((List ((List (UInt8)) × ((Int) × (Unit)))) × (Unit))))))) × (Unit)))), a0)
 else bif (decide ((0 : Int) < (((List.length a0.2.1) : Nat) : Int))) then ((Go.Lf.chk (List.length a0.2.1) (Go.IntKind.wrap .i64 ((((List.length a0.2.1) : Nat) : Int) - (1 : Int))))).bind fun r1 =>
 ((Go.Lf.nth a0.2.1 r1)).bind fun r2 =>
 ((Go.Fn.mark_wrong (45 : Int) r2.2.1 r2.2.2.1 r2.1)).bind fun r3 =>
 some (r3, a0)
 else ((Go.Fn.mark_lexer__flush a0)).bind fun r4 =>
 some ((none : Option ((Int) × (((Int) × ((Int) × ((Int) × ((Int) × ((List (UInt8)) × ((List ((List (UInt8)) × ((Int) × (Unit)))) × (Unit))))))) × (Unit)))), (r4.1, (r4.2.1, ((0 : Int), (r4.2.2.2.1, (((0 : Int), ((0 : Int), ())), r4.2.2.2.2.2))))))
theorem mark_lexer__end_eq (a0 : (List ((Int) × ((List (UInt8)) × ((List (UInt8)) × ((Int) × ((Int) × (Unit))))))) × ((List ((List (UInt8)) × ((Int) × ((Int) × (Unit))))) × ((Int) × (((Int) × ((List (UInt8)) × ((List (UInt8)) × ((Int) × ((Int) × (Unit)))))) × (((Int) × ((Int) × (Unit))) × ((Int) × ((Int) × (Unit)))))))) : Go.Lf.fnE mark_lexer__endCtx mark_lexer__endCode mark_lexer__endAnn [.obj 57 (.st (.pr (.rw 33 (.st (.pr (.int .i64) (.pr .str (.pr .str (.pr (.int .i64) (.pr (.int .i64) .unit))))))) (.pr (.mr 75 (.st (.pr .str (.pr (.int .i64) (.pr (.int .i64) .unit))))) (.pr (.int .i64) (.pr (.st (.pr (.int .i64) (.pr .str (.pr .str (.pr (.int .i64) (.pr (.int .i64) .unit)))))) (.pr (.st (.pr (.int .i64) (.pr (.int .i64) .unit))) (.pr (.int .i64) (.pr (.int .i64) .unit)))))))) (.st (.pr (.rw 33 (.st (.pr (.int .i64) (.pr .str (.pr .str (.pr (.int .i64) (.pr (.int .i64) .unit))))))) (.pr (.mr 75 (.st (.pr .str (.pr (.int .i64) (.pr (.int .i64) .unit))))) (.pr (.int .i64) (.pr (.st (.pr (.int .i64) (.pr .str (.pr .str (.pr (.int .i64) (.pr (.int .i64) .unit)))))) (.pr (.st (.pr (.int .i64) (.pr (.int .i64) .unit))) (.pr (.int .i64) (.pr (.int .i64) .unit)))))))) []] [(.eb 84 (.st (.pr (.int .i64) (.pr (.st (.pr (.int .i64) (.pr (.int .i64) (.pr (.int .i64) (.pr (.int .i64) (.pr .str (.pr (.sl (.st (.pr .str (.pr (.int .i64) .unit)))) .unit))))))) .unit))))] [.tmp 2] (a0) = mark_lexer__end a0 := by kernel_rfl
noncomputable def mark_lexer__endEnt : Nat × Go.Lf.Entry := (26, ⟨[.obj 57 (.st (.pr (.rw 33 (.st (.pr (.int .i64) (.pr .str (.pr .str (.pr (.int .i64) (.pr (.int .i64) .unit))))))) (.pr (.mr 75 (.st (.pr .str (.pr (.int .i64) (.pr (.int .i64) .unit))))) (.pr (.int .i64) (.pr (.st (.pr (.int .i64) (.pr .str (.pr .str (.pr (.int .i64) (.pr (.int .i64) .unit)))))) (.pr (.st (.pr (.int .i64) (.pr (.int .i64) .unit))) (.pr (.int .i64) (.pr (.int .i64) .unit)))))))) (.st (.pr (.rw 33 (.st (.pr (.int .i64) (.pr .str (.pr .str (.pr (.int .i64) (.pr (.int .i64) .unit))))))) (.pr (.mr 75 (.st (.pr .str (.pr (.int .i64) (.pr (.int .i64) .unit))))) (.pr (.int .i64) (.pr (.st (.pr (.int .i64) (.pr .str (.pr .str (.pr (.int .i64) (.pr (.int .i64) .unit)))))) (.pr (.st (.pr (.int .i64) (.pr (.int .i64) .unit))) (.pr (.int .i64) (.pr (.int .i64) .unit)))))))) []], [(.eb 84 (.st (.pr (.int .i64) (.pr (.st (.pr (.int .i64) (.pr (.int .i64) (.pr (.int .i64) (.pr (.int .i64) (.pr .str (.pr (.sl (.st (.pr .str (.pr (.int .i64) .unit)))) .unit))))))) .unit))))], fun z => mark_lexer__end z⟩)
theorem mark_lexer__end_ok : Go.Lf.EntryOk Go.Proofs.Tryd.prog GG 26 mark_lexer__endEnt.2 :=
  Go.Lf.fn_ok (c := mark_lexer__endCtx) (code := mark_lexer__endCode) (an := mark_lexer__endAnn) (slots := [.tmp 2]) (fn := Go.Proofs.Tryd.f26) (by kernel_rfl) ⟨Tys_ok, Go.Lf.FnsOk.look (.con mark_wrong_ok (.con mark_lexer__flush_ok .nil))⟩ (by kernel_rfl) (by kernel_rfl) (by kernel_rfl) (by kernel_rfl) (by kernel_rfl) (Nat.le_of_ble_eq_true rfl) (by simp [Go.Lf.Ty.top]) (by simp [Go.Lf.Ty.top]) fun z r h => (mark_lexer__end_eq z).trans h
noncomputable def mark_nameCtx : Go.Lf.Ctx := ⟨23, Tys, [], [], [], []⟩
noncomputable def mark_nameCode : Go.Code := (Go.Proofs.Tryd.f59.body).getD .skip
def mark_nameAnn : Go.Lf.Ann := (.seq .no (.seq .no (.seq (.loop ⟨[0], [], [(3, (.int .i64))], []⟩ (.one (.ext 0) ⟨[], [], [(3, (.int .i64))], []⟩) (.seq (.seq (.join (.one .nrm ⟨[0, 3], [], [(19, .bool)], []⟩) .no) .no) .no)) .no)))
noncomputable def mark_name (a0 : List (UInt8)) : Option (Int) :=
 (Go.Lf.loopC (σ := Int) (κ := Int) (fun z1 =>
     (bif (decide (z1 < (((List.length a0) : Nat) : Int))) then ((Go.Lf.idx a0 z1)).bind fun r2 =>
       bif (decide ((97 : Int) ≤ (((UInt8.toNat r2) : Nat) : Int))) then ((Go.Lf.idx a0 z1)).bind fun r3 =>
       some (decide ((((UInt8.toNat r3) : Nat) : Int) ≤ (122 : Int)))
       else some false
       else some false).bind fun r4 =>
     bif r4 then some (.inl (Go.IntKind.wrap .i64 (z1 + (1 : Int))))
     else some (.inr z1)) (0 : Int) : Option (Int)).bind fun r5 =>
 some r5
theorem mark_name_eq (a0 : List (UInt8)) : Go.Lf.fnE mark_nameCtx mark_nameCode mark_nameAnn [.val .str] [(.int .i64)] [.tmp 2] (a0) = mark_name a0 := by kernel_rfl
noncomputable def mark_nameEnt : Nat × Go.Lf.Entry := (59, ⟨[.val .str], [(.int .i64)], fun z => mark_name z⟩)
theorem mark_name_ok : Go.Lf.EntryOk Go.Proofs.Tryd.prog GG 59 mark_nameEnt.2 :=
  Go.Lf.fn_ok (c := mark_nameCtx) (code := mark_nameCode) (an := mark_nameAnn) (slots := [.tmp 2]) (fn := Go.Proofs.Tryd.f59) (by kernel_rfl) ⟨Tys_ok, Go.Lf.FnsOk.look .nil⟩ (by kernel_rfl) (by kernel_rfl) (by kernel_rfl) (by kernel_rfl) (by kernel_rfl) (Nat.le_of_ble_eq_true rfl) (by simp [Go.Lf.Ty.top]) (by simp [Go.Lf.Ty.top]) fun z r h => (mark_name_eq z).trans h
noncomputable def mark_blankedCtx : Go.Lf.Ctx := ⟨8, Tys, [], [], [], []⟩
noncomputable def mark_blankedCode : Go.Code := (Go.Proofs.Tryd.f60.body).getD .skip
def mark_blankedAnn : Go.Lf.Ann := (.seq .no (.seq (.seq .no (.seq (.join (.more .nrm ⟨[], [], [], []⟩ (.one (.ext 0) ⟨[], [], [], []⟩)) .no) .no)) .no))
noncomputable def mark_blanked (a0 : Int) : Option (Bool) :=
 (bif (decide ((a0 : Int) = (9 : Int))) then some (.inl ())
   else bif (decide ((a0 : Int) = (32 : Int))) then some (.inl ())
   else some (.inr ()) : Option ((Unit) ⊕ (Unit))).bind fun r1 =>
 Go.Lf.onSum r1 (fun a2 =>
 some true) (fun b3 =>
 some false)
theorem mark_blanked_eq (a0 : Int) : Go.Lf.fnE mark_blankedCtx mark_blankedCode mark_blankedAnn [.val (.int .u8)] [.bool] [.tmp 2] (a0) = mark_blanked a0 := by kernel_rfl
noncomputable def mark_blankedEnt : Nat × Go.Lf.Entry := (60, ⟨[.val (.int .u8)], [.bool], fun z => mark_blanked z⟩)
theorem mark_blanked_ok : Go.Lf.EntryOk Go.Proofs.Tryd.prog GG 60 mark_blankedEnt.2 :=
  Go.Lf.fn_ok (c := mark_blankedCtx) (code := mark_blankedCode) (an := mark_blankedAnn) (slots := [.tmp 2]) (fn := Go.Proofs.Tryd.f60) (by kernel_rfl) ⟨Tys_ok, Go.Lf.FnsOk.look .nil⟩ (by kernel_rfl) (by kernel_rfl) (by kernel_rfl) (by kernel_rfl) (by kernel_rfl) (Nat.le_of_ble_eq_true rfl) (by simp [Go.Lf.Ty.top]) (by simp [Go.Lf.Ty.top]) fun z r h => (mark_blanked_eq z).trans h
noncomputable def mark_lexer__directiveCtx : Go.Lf.Ctx := ⟨66, Tys, [mark_wrongEnt, mark_lexer__endEnt, strings_TrimEnt, mark_nameEnt, mark_blankedEnt], [50], [], [(50, (.rw 33 (.st (.pr (.int .i64) (.pr .str (.pr .str (.pr (.int .i64) (.pr (.int .i64) .unit))))))))]⟩
noncomputable def mark_lexer__directiveCode : Go.Code := (Go.Proofs.Tryd.f40.body).getD .skip
def mark_lexer__directiveAnn : Go.Lf.Ann := (.seq .no (.seq .no (.seq .no (.seq (.seq (.join (.one .nrm ⟨[5, 1, 6], [(0, 0, [], 0)], [(30, .bool)], [(0, 57, (.st (.pr (.rw 33 (.st (.pr (.int .i64) (.pr .str (.pr .str (.pr (.int .i64) (.pr (.int .i64) .unit))))))) (.pr (.mr 75 (.st (.pr .str (.pr (.int .i64) (.pr (.int .i64) .unit))))) (.pr (.int .i64) (.pr (.st (.pr (.int .i64) (.pr .str (.pr .str (.pr (.int .i64) (.pr (.int .i64) .unit)))))) (.pr (.st (.pr (.int .i64) (.pr (.int .i64) .unit))) (.pr (.int .i64) (.pr (.int .i64) .unit)))))))))]⟩) .no) (.cnd (.seq (.draw 9) .no) .no)) (.seq .no (.seq (.soup 17) .no))))))
noncomputable def mark_lexer__directive (a0 : (List ((Int) × ((List (UInt8)) × ((List (UInt8)) × ((Int) × ((Int) × (Unit))))))) × ((List ((List (UInt8)) × ((Int) × ((Int) × (Unit))))) × ((Int) × (((Int) × ((List (UInt8)) × ((List (UInt8)) × ((Int) × ((Int) × (Unit)))))) × (((Int) × ((Int) × (Unit))) × ((Int) × ((Int) × (Unit)))))))) (a1 : List (UInt8)) : Option ((Option ((Int) × (((Int) × ((Int) × ((Int) × ((Int) × ((List (UInt8)) × ((List ((List (UInt8)) × ((Int) × (Unit)))) × (Unit))))))) × (Unit)))) × ((List ((Int) × ((List (UInt8)) × ((List (UInt8)) × ((Int) × ((Int) × (Unit))))))) × ((List ((List (UInt8)) × ((Int) × ((Int) × (Unit))))) × ((Int) × (((Int) × ((List (UInt8)) × ((List (UInt8)) × ((Int) × ((Int) × (Unit)))))) × (((Int) × ((Int) × (Unit))) × ((Int) × ((Int) × (Unit))))))))) :=
 ((Go.Lf.sub a1 (1 : Int) (((List.length a1) : Nat) : Int))).bind fun r1 =>
 ((Go.Fn.mark_name r1)).bind fun r2 =>
 ((Go.Lf.sub a1 (Go.IntKind.wrap .i64 ((1 : Int) + r2)) (((List.length a1) : Nat) : Int))).bind fun r3 =>
 (bif (!(decide ((r2 : Int) = (0 : Int)))) then bif (!(decide ((12 : Int) < r2))) then bif (decide ((r3 : List (UInt8)) ≠ ([] : List (UInt8)))) then ((Go.Lf.idx r3 (0 : Int))).bind fun r4 =>
   ((Go.Fn.mark_blanked (((UInt8.toNat r4) : Nat) : Int))).bind fun r5 =>
   some ((!r5), a0)
   else some (false, a0)
   else some (true, a0)
   else some (true, a0)).bind fun r6 =>
 bif r6.1 then ((Go.Lf.sub a1 (1 : Int) (Go.IntKind.wrap .i64 ((1 : Int) + (Min.min r2 (12 : Int)))))).bind fun r7 =>
 ((Go.Fn.mark_wrong (41 : Int) r6.2.2.2.2.2.2.2.1 (2 : Int) r7)).bind fun r8 =>
 some (r8, r6.2)
 else ((Go.Fn.mark_lexer__end r6.2)).bind fun r9 =>
 bif (Option.isSome r9.1) then some (r9.1, r9.2)
 else ((Go.Lf.sub a1 (1 : Int) (Go.IntKind.wrap .i64 ((1 : Int) + r2)))).bind fun r10 =>
 ((Go.Fn.strings_Trim r3 ((32 : UInt8) :: ((9 : UInt8) :: ([] : List (UInt8)))))).bind fun r11 =>
 ((Go.Lf.app (56 : Nat) r9.2.1 (((1 : Int), (r10, (r11, (r9.2.2.2.2.2.2.2.1, ((1 : Int), ()))))) :: ([] : List ((Int) × ((List (UInt8)) × ((List (UInt8)) × ((Int) × ((Int) × (Unit)))))))))).bind fun r12 =>
 some ((none : Option ((Int) × (((Int) × ((Int) × ((Int) × ((Int) × ((List (UInt8)) × ((List ((List (UInt8)) × ((Int) × (Unit)))) × (Unit))))))) × (Unit)))), (r12, r9.2.2))
theorem mark_lexer__directive_eq (a0 : (List ((Int) × ((List (UInt8)) × ((List (UInt8)) × ((Int) × ((Int) × (Unit))))))) × ((List ((List (UInt8)) × ((Int) × ((Int) × (Unit))))) × ((Int) × (((Int) × ((List (UInt8)) × ((List (UInt8)) × ((Int) × ((Int) × (Unit)))))) × (((Int) × ((Int) × (Unit))) × ((Int) × ((Int) × (Unit)))))))) (a1 : List (UInt8)) : Go.Lf.fnE mark_lexer__directiveCtx mark_lexer__directiveCode mark_lexer__directiveAnn [.obj 57 (.st (.pr (.rw 33 (.st (.pr (.int .i64) (.pr .str (.pr .str (.pr (.int .i64) (.pr (.int .i64) .unit))))))) (.pr (.mr 75 (.st (.pr .str (.pr (.int .i64) (.pr (.int .i64) .unit))))) (.pr (.int .i64) (.pr (.st (.pr (.int .i64) (.pr .str (.pr .str (.pr (.int .i64) (.pr (.int .i64) .unit)))))) (.pr (.st (.pr (.int .i64) (.pr (.int .i64) .unit))) (.pr (.int .i64) (.pr (.int .i64) .unit)))))))) (.st (.pr (.rw 33 (.st (.pr (.int .i64) (.pr .str (.pr .str (.pr (.int .i64) (.pr (.int .i64) .unit))))))) (.pr (.mr 75 (.st (.pr .str (.pr (.int .i64) (.pr (.int .i64) .unit))))) (.pr (.int .i64) (.pr (.st (.pr (.int .i64) (.pr .str (.pr .str (.pr (.int .i64) (.pr (.int .i64) .unit)))))) (.pr (.st (.pr (.int .i64) (.pr (.int .i64) .unit))) (.pr (.int .i64) (.pr (.int .i64) .unit)))))))) [], .val .str] [(.eb 84 (.st (.pr (.int .i64) (.pr (.st (.pr (.int .i64) (.pr (.int .i64) (.pr (.int .i64) (.pr (.int .i64) (.pr .str (.pr (.sl (.st (.pr .str (.pr (.int .i64) .unit)))) .unit))))))) .unit))))] [.tmp 4] (a0, a1) = mark_lexer__directive a0 a1 := by kernel_rfl
noncomputable def mark_lexer__directiveEnt : Nat × Go.Lf.Entry := (40, ⟨[.obj 57 (.st (.pr (.rw 33 (.st (.pr (.int .i64) (.pr .str (.pr .str (.pr (.int .i64) (.pr (.int .i64) .unit))))))) (.pr (.mr 75 (.st (.pr .str (.pr (.int .i64) (.pr (.int .i64) .unit))))) (.pr (.int .i64) (.pr (.st (.pr (.int .i64) (.pr .str (.pr .str (.pr (.int .i64) (.pr (.int .i64) .unit)))))) (.pr (.st (.pr (.int .i64) (.pr (.int .i64) .unit))) (.pr (.int .i64) (.pr (.int .i64) .unit)))))))) (.st (.pr (.rw 33 (.st (.pr (.int .i64) (.pr .str (.pr .str (.pr (.int .i64) (.pr (.int .i64) .unit))))))) (.pr (.mr 75 (.st (.pr .str (.pr (.int .i64) (.pr (.int .i64) .unit))))) (.pr (.int .i64) (.pr (.st (.pr (.int .i64) (.pr .str (.pr .str (.pr (.int .i64) (.pr (.int .i64) .unit)))))) (.pr (.st (.pr (.int .i64) (.pr (.int .i64) .unit))) (.pr (.int .i64) (.pr (.int .i64) .unit)))))))) [], .val .str], [(.eb 84 (.st (.pr (.int .i64) (.pr (.st (.pr (.int .i64) (.pr (.int .i64) (.pr (.int .i64) (.pr (.int .i64) (.pr .str (.pr (.sl (.st (.pr .str (.pr (.int .i64) .unit)))) .unit))))))) .unit))))], fun z => mark_lexer__directive z.1 z.2⟩)
theorem mark_lexer__directive_ok : Go.Lf.EntryOk Go.Proofs.Tryd.prog GG 40 mark_lexer__directiveEnt.2 :=
  Go.Lf.fn_ok (c := mark_lexer__directiveCtx) (code := mark_lexer__directiveCode) (an := mark_lexer__directiveAnn) (slots := [.tmp 4]) (fn := Go.Proofs.Tryd.f40) (by kernel_rfl) ⟨Tys_ok, Go.Lf.FnsOk.look (.con mark_wrong_ok (.con mark_lexer__end_ok (.con strings_Trim_ok (.con mark_name_ok (.con mark_blanked_ok .nil)))))⟩ (by kernel_rfl) (by kernel_rfl) (by kernel_rfl) (by kernel_rfl) (by kernel_rfl) (Nat.le_of_ble_eq_true rfl) (by simp [Go.Lf.Ty.top]) (by simp [Go.Lf.Ty.top]) fun z r h => (mark_lexer__directive_eq z.1 z.2).trans h
noncomputable def mark_lexer__waitCtx : Go.Lf.Ctx := ⟨26, Tys, [], [], [], []⟩
noncomputable def mark_lexer__waitCode : Go.Code := (Go.Proofs.Tryd.f62.body).getD .skip
def mark_lexer__waitAnn : Go.Lf.Ann := (.seq (.join (.one .nrm ⟨[1], [(0, 0, [], 0)], [(16, .bool)], [(0, 57, (.st (.pr (.rw 33 (.st (.pr (.int .i64) (.pr .str (.pr .str (.pr (.int .i64) (.pr (.int .i64) .unit))))))) (.pr (.mr 75 (.st (.pr .str (.pr (.int .i64) (.pr (.int .i64) .unit))))) (.pr (.int .i64) (.pr (.st (.pr (.int .i64) (.pr .str (.pr .str (.pr (.int .i64) (.pr (.int .i64) .unit)))))) (.pr (.st (.pr (.int .i64) (.pr (.int .i64) .unit))) (.pr (.int .i64) (.pr (.int .i64) .unit)))))))))]⟩) .no) .no)
noncomputable def mark_lexer__wait (a0 : (List ((Int) × ((List (UInt8)) × ((List (UInt8)) × ((Int) × ((Int) × (Unit))))))) × ((List ((List (UInt8)) × ((Int) × ((Int) × (Unit))))) × ((Int) × (((Int) × ((List (UInt8)) × ((List (UInt8)) × ((Int) × ((Int) × (Unit)))))) × (((Int) × ((Int) × (Unit))) × ((Int) × ((Int) × (Unit)))))))) (a1 : Int) : Option ((List ((Int) × ((List (UInt8)) × ((List (UInt8)) × ((Int) × ((Int) × (Unit))))))) × ((List ((List (UInt8)) × ((Int) × ((Int) × (Unit))))) × ((Int) × (((Int) × ((List (UInt8)) × ((List (UInt8)) × ((Int) × ((Int) × (Unit)))))) × (((Int) × ((Int) × (Unit))) × ((Int) × ((Int) × (Unit)))))))) :=
 (bif (decide ((a0.2.2.2.2.2.1 : Int) = (0 : Int))) then some ((decide (((a0.2.2.2.2.1.1 :: (a0.2.2.2.2.1.2.1 :: ([] : List (Int)))) : List (Int)) = ((0 : Int) :: ((0 : Int) :: ([] : List (Int)))))), a0)
   else some (false, a0)).bind fun r1 =>
 bif r1.1 then some (r1.2.1, (r1.2.2.1, (r1.2.2.2.1, (r1.2.2.2.2.1, ((r1.2.2.2.2.2.2.2.1, (a1, ())), r1.2.2.2.2.2.2)))))
 else some r1.2
theorem mark_lexer__wait_eq (a0 : (List ((Int) × ((List (UInt8)) × ((List (UInt8)) × ((Int) × ((Int) × (Unit))))))) × ((List ((List (UInt8)) × ((Int) × ((Int) × (Unit))))) × ((Int) × (((Int) × ((List (UInt8)) × ((List (UInt8)) × ((Int) × ((Int) × (Unit)))))) × (((Int) × ((Int) × (Unit))) × ((Int) × ((Int) × (Unit)))))))) (a1 : Int) : Go.Lf.fnE mark_lexer__waitCtx mark_lexer__waitCode mark_lexer__waitAnn [.obj 57 (.st (.pr (.rw 33 (.st (.pr (.int .i64) (.pr .str (.pr .str (.pr (.int .i64) (.pr (.int .i64) .unit))))))) (.pr (.mr 75 (.st (.pr .str (.pr (.int .i64) (.pr (.int .i64) .unit))))) (.pr (.int .i64) (.pr (.st (.pr (.int .i64) (.pr .str (.pr .str (.pr (.int .i64) (.pr (.int .i64) .unit)))))) (.pr (.st (.pr (.int .i64) (.pr (.int .i64) .unit))) (.pr (.int .i64) (.pr (.int .i64) .unit)))))))) (.st (.pr (.rw 33 (.st (.pr (.int .i64) (.pr .str (.pr .str (.pr (.int .i64) (.pr (.int .i64) .unit))))))) (.pr (.mr 75 (.st (.pr .str (.pr (.int .i64) (.pr (.int .i64) .unit))))) (.pr (.int .i64) (.pr (.st (.pr (.int .i64) (.pr .str (.pr .str (.pr (.int .i64) (.pr (.int .i64) .unit)))))) (.pr (.st (.pr (.int .i64) (.pr (.int .i64) .unit))) (.pr (.int .i64) (.pr (.int .i64) .unit)))))))) [], .val (.int .i64)] [] [] (a0, a1) = mark_lexer__wait a0 a1 := by kernel_rfl
noncomputable def mark_lexer__waitEnt : Nat × Go.Lf.Entry := (62, ⟨[.obj 57 (.st (.pr (.rw 33 (.st (.pr (.int .i64) (.pr .str (.pr .str (.pr (.int .i64) (.pr (.int .i64) .unit))))))) (.pr (.mr 75 (.st (.pr .str (.pr (.int .i64) (.pr (.int .i64) .unit))))) (.pr (.int .i64) (.pr (.st (.pr (.int .i64) (.pr .str (.pr .str (.pr (.int .i64) (.pr (.int .i64) .unit)))))) (.pr (.st (.pr (.int .i64) (.pr (.int .i64) .unit))) (.pr (.int .i64) (.pr (.int .i64) .unit)))))))) (.st (.pr (.rw 33 (.st (.pr (.int .i64) (.pr .str (.pr .str (.pr (.int .i64) (.pr (.int .i64) .unit))))))) (.pr (.mr 75 (.st (.pr .str (.pr (.int .i64) (.pr (.int .i64) .unit))))) (.pr (.int .i64) (.pr (.st (.pr (.int .i64) (.pr .str (.pr .str (.pr (.int .i64) (.pr (.int .i64) .unit)))))) (.pr (.st (.pr (.int .i64) (.pr (.int .i64) .unit))) (.pr (.int .i64) (.pr (.int .i64) .unit)))))))) [], .val (.int .i64)], [], fun z => mark_lexer__wait z.1 z.2⟩)
theorem mark_lexer__wait_ok : Go.Lf.EntryOk Go.Proofs.Tryd.prog GG 62 mark_lexer__waitEnt.2 :=
  Go.Lf.fn_ok (c := mark_lexer__waitCtx) (code := mark_lexer__waitCode) (an := mark_lexer__waitAnn) (slots := []) (fn := Go.Proofs.Tryd.f62) (by kernel_rfl) ⟨Tys_ok, Go.Lf.FnsOk.look .nil⟩ (by kernel_rfl) (by kernel_rfl) (by kernel_rfl) (by kernel_rfl) (by kernel_rfl) (Nat.le_of_ble_eq_true rfl) (by simp [Go.Lf.Ty.top]) (by simp [Go.Lf.Ty.top]) fun z r h => (mark_lexer__wait_eq z.1 z.2).trans h
noncomputable def mark_lexer__putCtx : Go.Lf.Ctx := ⟨30, Tys, [], [], [], []⟩
noncomputable def mark_lexer__putCode : Go.Code := (Go.Proofs.Tryd.f76.body).getD .skip
def mark_lexer__putAnn : Go.Lf.Ann := (.seq (.join (.one .nrm ⟨[1], [(0, 0, [], 0)], [], [(0, 57, (.st (.pr (.rw 33 (.st (.pr (.int .i64) (.pr .str (.pr .str (.pr (.int .i64) (.pr (.int .i64) .unit))))))) (.pr (.mr 75 (.st (.pr .str (.pr (.int .i64) (.pr (.int .i64) .unit))))) (.pr (.int .i64) (.pr (.st (.pr (.int .i64) (.pr .str (.pr .str (.pr (.int .i64) (.pr (.int .i64) .unit)))))) (.pr (.st (.pr (.int .i64) (.pr (.int .i64) .unit))) (.pr (.int .i64) (.pr (.int .i64) .unit)))))))))]⟩) .no) .no)
noncomputable def mark_lexer__put (a0 : (List ((Int) × ((List (UInt8)) × ((List (UInt8)) × ((Int) × ((Int) × (Unit))))))) × ((List ((List (UInt8)) × ((Int) × ((Int) × (Unit))))) × ((Int) × (((Int) × ((List (UInt8)) × ((List (UInt8)) × ((Int) × ((Int) × (Unit)))))) × (((Int) × ((Int) × (Unit))) × ((Int) × ((Int) × (Unit)))))))) (a1 : List (UInt8)) (a2 : Int) (a3 : Int) : Option ((List ((Int) × ((List (UInt8)) × ((List (UInt8)) × ((Int) × ((Int) × (Unit))))))) × ((List ((List (UInt8)) × ((Int) × ((Int) × (Unit))))) × ((Int) × (((Int) × ((List (UInt8)) × ((List (UInt8)) × ((Int) × ((Int) × (Unit)))))) × (((Int) × ((Int) × (Unit))) × ((Int) × ((Int) × (Unit)))))))) :=
 (bif (decide ((a0.2.2.2.1.2.2.1 : List (UInt8)) = ([] : List (UInt8)))) then some (a0.1, (a0.2.1, (a0.2.2.1, (((6 : Int), (([] : List (UInt8)), (([] : List (UInt8)), (a2, (a3, ()))))), a0.2.2.2.2))))
   else some a0).bind fun r1 =>
 ((Go.Lf.cat r1.2.2.2.1.2.2.1 a1)).bind fun r2 =>
 some (r1.1, (r1.2.1, (r1.2.2.1, ((r1.2.2.2.1.1, (r1.2.2.2.1.2.1, (r2, r1.2.2.2.1.2.2.2))), r1.2.2.2.2))))
theorem mark_lexer__put_eq (a0 : (List ((Int) × ((List (UInt8)) × ((List (UInt8)) × ((Int) × ((Int) × (Unit))))))) × ((List ((List (UInt8)) × ((Int) × ((Int) × (Unit))))) × ((Int) × (((Int) × ((List (UInt8)) × ((List (UInt8)) × ((Int) × ((Int) × (Unit)))))) × (((Int) × ((Int) × (Unit))) × ((Int) × ((Int) × (Unit)))))))) (a1 : List (UInt8)) (a2 : Int) (a3 : Int) : Go.Lf.fnE mark_lexer__putCtx mark_lexer__putCode mark_lexer__putAnn [.obj 57 (.st (.pr (.rw 33 (.st (.pr (.int .i64) (.pr .str (.pr .str (.pr (.int .i64) (.pr (.int .i64) .unit))))))) (.pr (.mr 75 (.st (.pr .str (.pr (.int .i64) (.pr (.int .i64) .unit))))) (.pr (.int .i64) (.pr (.st (.pr (.int .i64) (.pr .str (.pr .str (.pr (.int .i64) (.pr (.int .i64) .unit)))))) (.pr (.st (.pr (.int .i64) (.pr (.int .i64) .unit))) (.pr (.int .i64) (.pr (.int .i64) .unit)))))))) (.st (.pr (.rw 33 (.st (.pr (.int .i64) (.pr .str (.pr .str (.pr (.int .i64) (.pr (.int .i64) .unit))))))) (.pr (.mr 75 (.st (.pr .str (.pr (.int .i64) (.pr (.int .i64) .unit))))) (.pr (.int .i64) (.pr (.st (.pr (.int .i64) (.pr .str (.pr .str (.pr (.int .i64) (.pr (.int .i64) .unit)))))) (.pr (.st (.pr (.int .i64) (.pr (.int .i64) .unit))) (.pr (.int .i64) (.pr (.int .i64) .unit)))))))) [], .val .str, .val (.int .i64), .val (.int .i64)] [] [] (a0, a1, a2, a3) = mark_lexer__put a0 a1 a2 a3 := by kernel_rfl
noncomputable def mark_lexer__putEnt : Nat × Go.Lf.Entry := (76, ⟨[.obj 57 (.st (.pr (.rw 33 (.st (.pr (.int .i64) (.pr .str (.pr .str (.pr (.int .i64) (.pr (.int .i64) .unit))))))) (.pr (.mr 75 (.st (.pr .str (.pr (.int .i64) (.pr (.int .i64) .unit))))) (.pr (.int .i64) (.pr (.st (.pr (.int .i64) (.pr .str (.pr .str (.pr (.int .i64) (.pr (.int .i64) .unit)))))) (.pr (.st (.pr (.int .i64) (.pr (.int .i64) .unit))) (.pr (.int .i64) (.pr (.int .i64) .unit)))))))) (.st (.pr (.rw 33 (.st (.pr (.int .i64) (.pr .str (.pr .str (.pr (.int .i64) (.pr (.int .i64) .unit))))))) (.pr (.mr 75 (.st (.pr .str (.pr (.int .i64) (.pr (.int .i64) .unit))))) (.pr (.int .i64) (.pr (.st (.pr (.int .i64) (.pr .str (.pr .str (.pr (.int .i64) (.pr (.int .i64) .unit)))))) (.pr (.st (.pr (.int .i64) (.pr (.int .i64) .unit))) (.pr (.int .i64) (.pr (.int .i64) .unit)))))))) [], .val .str, .val (.int .i64), .val (.int .i64)], [], fun z => mark_lexer__put z.1 z.2.1 z.2.2.1 z.2.2.2⟩)
theorem mark_lexer__put_ok : Go.Lf.EntryOk Go.Proofs.Tryd.prog GG 76 mark_lexer__putEnt.2 :=
  Go.Lf.fn_ok (c := mark_lexer__putCtx) (code := mark_lexer__putCode) (an := mark_lexer__putAnn) (slots := []) (fn := Go.Proofs.Tryd.f76) (by kernel_rfl) ⟨Tys_ok, Go.Lf.FnsOk.look .nil⟩ (by kernel_rfl) (by kernel_rfl) (by kernel_rfl) (by kernel_rfl) (by kernel_rfl) (Nat.le_of_ble_eq_true rfl) (by simp [Go.Lf.Ty.top]) (by simp [Go.Lf.Ty.top]) fun z r h => (mark_lexer__put_eq z.1 z.2.1 z.2.2.1 z.2.2.2).trans h
noncomputable def mark_lexer__settleCtx : Go.Lf.Ctx := ⟨27, Tys, [mark_lexer__putEnt], [], [], []⟩
noncomputable def mark_lexer__settleCode : Go.Code := (Go.Proofs.Tryd.f75.body).getD .skip
def mark_lexer__settleAnn : Go.Lf.Ann := (.seq (.join (.one .nrm ⟨[], [(0, 0, [], 0)], [], [(0, 57, (.st (.pr (.rw 33 (.st (.pr (.int .i64) (.pr .str (.pr .str (.pr (.int .i64) (.pr (.int .i64) .unit))))))) (.pr (.mr 75 (.st (.pr .str (.pr (.int .i64) (.pr (.int .i64) .unit))))) (.pr (.int .i64) (.pr (.st (.pr (.int .i64) (.pr .str (.pr .str (.pr (.int .i64) (.pr (.int .i64) .unit)))))) (.pr (.st (.pr (.int .i64) (.pr (.int .i64) .unit))) (.pr (.int .i64) (.pr (.int .i64) .unit)))))))))]⟩) (.seq .no (.cnd (.seq (.draw 11) .no) .no))) .no)
noncomputable def mark_lexer__settle (a0 : (List ((Int) × ((List (UInt8)) × ((List (UInt8)) × ((Int) × ((Int) × (Unit))))))) × ((List ((List (UInt8)) × ((Int) × ((Int) × (Unit))))) × ((Int) × (((Int) × ((List (UInt8)) × ((List (UInt8)) × ((Int) × ((Int) × (Unit)))))) × (((Int) × ((Int) × (Unit))) × ((Int) × ((Int) × (Unit)))))))) : Option ((List ((Int) × ((List (UInt8)) × ((List (UInt8)) × ((Int) × ((Int) × (Unit))))))) × ((List ((List (UInt8)) × ((Int) × ((Int) × (Unit))))) × ((Int) × (((Int) × ((List (UInt8)) × ((List (UInt8)) × ((Int) × ((Int) × (Unit)))))) × (((Int) × ((Int) × (Unit))) × ((Int) × ((Int) × (Unit)))))))) :=
 (bif (!(decide (((a0.2.2.2.2.1.1 :: (a0.2.2.2.2.1.2.1 :: ([] : List (Int)))) : List (Int)) = ((0 : Int) :: ((0 : Int) :: ([] : List (Int))))))) then ((Go.Fn.mark_lexer__put a0 ((32 : UInt8) :: ([] : List (UInt8))) a0.2.2.2.2.1.1 a0.2.2.2.2.1.2.1)).bind fun r1 =>
   some (r1.1, (r1.2.1, (r1.2.2.1, (r1.2.2.2.1, (((0 : Int), ((0 : Int), ())), r1.2.2.2.2.2)))))
   else some a0).bind fun r2 =>
 some (r2.1, (r2.2.1, (r2.2.2.1, (r2.2.2.2.1, (r2.2.2.2.2.1, ((0 : Int), r2.2.2.2.2.2.2))))))
theorem mark_lexer__settle_eq (a0 : (List ((Int) × ((List (UInt8)) × ((List (UInt8)) × ((Int) × ((Int) × (Unit))))))) × ((List ((List (UInt8)) × ((Int) × ((Int) × (Unit))))) × ((Int) × (((Int) × ((List (UInt8)) × ((List (UInt8)) × ((Int) × ((Int) × (Unit)))))) × (((Int) × ((Int) × (Unit))) × ((Int) × ((Int) × (Unit)))))))) : Go.Lf.fnE mark_lexer__settleCtx mark_lexer__settleCode mark_lexer__settleAnn [.obj 57 (.st (.pr (.rw 33 (.st (.pr (.int .i64) (.pr .str (.pr .str (.pr (.int .i64) (.pr (.int .i64) .unit))))))) (.pr (.mr 75 (.st (.pr .str (.pr (.int .i64) (.pr (.int .i64) .unit))))) (.pr (.int .i64) (.pr (.st (.pr (.int .i64) (.pr .str (.pr .str (.pr (.int .i64) (.pr (.int .i64) .unit)))))) (.pr (.st (.pr (.int .i64) (.pr (.int .i64) .unit))) (.pr (.int .i64) (.pr (.int .i64) .unit)))))))) (.st (.pr (.rw 33 (.st (.pr (.int .i64) (.pr .str (.pr .str (.pr (.int .i64) (.pr (.int .i64) .unit))))))) (.pr (.mr 75 (.st (.pr .str (.pr (.int .i64) (.pr (.int .i64) .unit))))) (.pr (.int .i64) (.pr (.st (.pr (.int .i64) (.pr .str (.pr .str (.pr (.int .i64) (.pr (.int .i64) .unit)))))) (.pr (.st (.pr (.int .i64) (.pr (.int .i64) .unit))) (.pr (.int .i64) (.pr (.int .i64) .unit)))))))) []] [] [] (a0) = mark_lexer__settle a0 := by kernel_rfl
noncomputable def mark_lexer__settleEnt : Nat × Go.Lf.Entry := (75, ⟨[.obj 57 (.st (.pr (.rw 33 (.st (.pr (.int .i64) (.pr .str (.pr .str (.pr (.int .i64) (.pr (.int .i64) .unit))))))) (.pr (.mr 75 (.st (.pr .str (.pr (.int .i64) (.pr (.int .i64) .unit))))) (.pr (.int .i64) (.pr (.st (.pr (.int .i64) (.pr .str (.pr .str (.pr (.int .i64) (.pr (.int .i64) .unit)))))) (.pr (.st (.pr (.int .i64) (.pr (.int .i64) .unit))) (.pr (.int .i64) (.pr (.int .i64) .unit)))))))) (.st (.pr (.rw 33 (.st (.pr (.int .i64) (.pr .str (.pr .str (.pr (.int .i64) (.pr (.int .i64) .unit))))))) (.pr (.mr 75 (.st (.pr .str (.pr (.int .i64) (.pr (.int .i64) .unit))))) (.pr (.int .i64) (.pr (.st (.pr (.int .i64) (.pr .str (.pr .str (.pr (.int .i64) (.pr (.int .i64) .unit)))))) (.pr (.st (.pr (.int .i64) (.pr (.int .i64) .unit))) (.pr (.int .i64) (.pr (.int .i64) .unit)))))))) []], [], fun z => mark_lexer__settle z⟩)
theorem mark_lexer__settle_ok : Go.Lf.EntryOk Go.Proofs.Tryd.prog GG 75 mark_lexer__settleEnt.2 :=
  Go.Lf.fn_ok (c := mark_lexer__settleCtx) (code := mark_lexer__settleCode) (an := mark_lexer__settleAnn) (slots := []) (fn := Go.Proofs.Tryd.f75) (by kernel_rfl) ⟨Tys_ok, Go.Lf.FnsOk.look (.con mark_lexer__put_ok .nil)⟩ (by kernel_rfl) (by kernel_rfl) (by kernel_rfl) (by kernel_rfl) (by kernel_rfl) (Nat.le_of_ble_eq_true rfl) (by simp [Go.Lf.Ty.top]) (by simp [Go.Lf.Ty.top]) fun z r h => (mark_lexer__settle_eq z).trans h
noncomputable def mark_lexer__escapeCtx : Go.Lf.Ctx := ⟨69, Tys, [strings_IndexByteEnt, mark_wrongEnt, utf8_DecodeRuneInStringEnt, mark_lexer__settleEnt, mark_lexer__putEnt], [], [], []⟩
noncomputable def mark_lexer__escapeCode : Go.Code := (Go.Proofs.Tryd.f72.body).getD .skip
def mark_lexer__escapeAnn : Go.Lf.Ann := (.seq .no (.seq (.seq (.join (.one .nrm ⟨[2, 1], [(0, 0, [], 0)], [(23, .bool)], [(0, 57, (.st (.pr (.rw 33 (.st (.pr (.int .i64) (.pr .str (.pr .str (.pr (.int .i64) (.pr (.int .i64) .unit))))))) (.pr (.mr 75 (.st (.pr .str (.pr (.int .i64) (.pr (.int .i64) .unit))))) (.pr (.int .i64) (.pr (.st (.pr (.int .i64) (.pr .str (.pr .str (.pr (.int .i64) (.pr (.int .i64) .unit)))))) (.pr (.st (.pr (.int .i64) (.pr (.int .i64) .unit))) (.pr (.int .i64) (.pr (.int .i64) .unit)))))))))]⟩) .no) (.cnd (.seq .no (.seq (.draw 13) .no)) .no)) (.seq .no (.seq (.join (.one .nrm ⟨[2], [(0, 0, [], 0)], [(8, .str)], [(0, 57, (.st (.pr (.rw 33 (.st (.pr (.int .i64) (.pr .str (.pr .str (.pr (.int .i64) (.pr (.int .i64) .unit))))))) (.pr (.mr 75 (.st (.pr .str (.pr (.int .i64) (.pr (.int .i64) .unit))))) (.pr (.int .i64) (.pr (.st (.pr (.int .i64) (.pr .str (.pr .str (.pr (.int .i64) (.pr (.int .i64) .unit)))))) (.pr (.st (.pr (.int .i64) (.pr (.int .i64) .unit))) (.pr (.int .i64) (.pr (.int .i64) .unit)))))))))]⟩) .no) .no))))
noncomputable def mark_lexer__escape (a0 : (List ((Int) × ((List (UInt8)) × ((List (UInt8)) × ((Int) × ((Int) × (Unit))))))) × ((List ((List (UInt8)) × ((Int) × ((Int) × (Unit))))) × ((Int) × (((Int) × ((List (UInt8)) × ((List (UInt8)) × ((Int) × ((Int) × (Unit)))))) × (((Int) × ((Int) × (Unit))) × ((Int) × ((Int) × (Unit)))))))) (a1 : List (UInt8)) (a2 : Int) : Option ((Int) × ((Option ((Int) × (((Int) × ((Int) × ((Int) × ((Int) × ((List (UInt8)) × ((List ((List (UInt8)) × ((Int) × (Unit)))) × (Unit))))))) × (Unit)))) × ((List ((Int) × ((List (UInt8)) × ((List (UInt8)) × ((Int) × ((Int) × (Unit))))))) × ((List ((List (UInt8)) × ((Int) × ((Int) × (Unit))))) × ((Int) × (((Int) × ((List (UInt8)) × ((List (UInt8)) × ((Int) × ((Int) × (Unit)))))) × (((Int) × ((Int) × (Unit))) × ((Int) × ((Int) × (Unit)))))))))) :=
 (bif (decide ((Go.IntKind.wrap .i64 (a2 + (1 : Int))) < (((List.length a1) : Nat) : Int))) then ((Go.Lf.idx a1 (Go.IntKind.wrap .i64 (a2 + (1 : Int))))).bind fun r1 =>
   ((Go.Fn.strings_IndexByte ((92 : UInt8) :: ((123 : UInt8) :: ((125 : UInt8) :: ((124 : UInt8) :: ((46 : UInt8) :: ((35 : UInt8) :: ([] : List (UInt8)))))))) (((UInt8.toNat r1) : Nat) : Int))).bind fun r2 =>
   some ((decide ((0 : Int) ≤ r2)), a0)
   else some (false, a0)).bind fun r3 =>
 bif r3.1 then ((Go.Fn.mark_lexer__settle r3.2)).bind fun r4 =>
 ((Go.Lf.sub a1 (Go.IntKind.wrap .i64 (a2 + (1 : Int))) (Go.IntKind.wrap .i64 (a2 + (2 : Int))))).bind fun r5 =>
 ((Go.Fn.mark_lexer__put r4 r5 r4.2.2.2.2.2.2.1 (Go.IntKind.wrap .i64 (a2 + (1 : Int))))).bind fun r6 =>
 some ((2 : Int), ((none : Option ((Int) × (((Int) × ((Int) × ((Int) × ((Int) × ((List (UInt8)) × ((List ((List (UInt8)) × ((Int) × (Unit)))) × (Unit))))))) × (Unit)))), r6))
 else (bif (decide ((Go.IntKind.wrap .i64 (a2 + (1 : Int))) < (((List.length a1) : Nat) : Int))) then ((Go.Lf.sub a1 (Go.IntKind.wrap .i64 (a2 + (1 : Int))) (((List.length a1) : Nat) : Int))).bind fun r7 =>
   ((Go.Fn.utf8_DecodeRuneInString r7)).bind fun r8 =>
   ((Go.Lf.sub a1 (Go.IntKind.wrap .i64 (a2 + (1 : Int))) (Go.IntKind.wrap .i64 ((Go.IntKind.wrap .i64 (a2 + (1 : Int))) + r8.2)))).bind fun r9 =>
   some (r9, r3.2)
   else some (([] : List (UInt8)), r3.2)).bind fun r10 =>
 ((Go.Fn.mark_wrong (42 : Int) r10.2.2.2.2.2.2.2.1 (Go.IntKind.wrap .i64 (a2 + (1 : Int))) r10.1)).bind fun r11 =>
 some ((0 : Int), (r11, r10.2))
theorem mark_lexer__escape_eq (a0 : (List ((Int) × ((List (UInt8)) × ((List (UInt8)) × ((Int) × ((Int) × (Unit))))))) × ((List ((List (UInt8)) × ((Int) × ((Int) × (Unit))))) × ((Int) × (((Int) × ((List (UInt8)) × ((List (UInt8)) × ((Int) × ((Int) × (Unit)))))) × (((Int) × ((Int) × (Unit))) × ((Int) × ((Int) × (Unit)))))))) (a1 : List (UInt8)) (a2 : Int) : Go.Lf.fnE mark_lexer__escapeCtx mark_lexer__escapeCode mark_lexer__escapeAnn [.obj 57 (.st (.pr (.rw 33 (.st (.pr (.int .i64) (.pr .str (.pr .str (.pr (.int .i64) (.pr (.int .i64) .unit))))))) (.pr (.mr 75 (.st (.pr .str (.pr (.int .i64) (.pr (.int .i64) .unit))))) (.pr (.int .i64) (.pr (.st (.pr (.int .i64) (.pr .str (.pr .str (.pr (.int .i64) (.pr (.int .i64) .unit)))))) (.pr (.st (.pr (.int .i64) (.pr (.int .i64) .unit))) (.pr (.int .i64) (.pr (.int .i64) .unit)))))))) (.st (.pr (.rw 33 (.st (.pr (.int .i64) (.pr .str (.pr .str (.pr (.int .i64) (.pr (.int .i64) .unit))))))) (.pr (.mr 75 (.st (.pr .str (.pr (.int .i64) (.pr (.int .i64) .unit))))) (.pr (.int .i64) (.pr (.st (.pr (.int .i64) (.pr .str (.pr .str (.pr (.int .i64) (.pr (.int .i64) .unit)))))) (.pr (.st (.pr (.int .i64) (.pr (.int .i64) .unit))) (.pr (.int .i64) (.pr (.int .i64) .unit)))))))) [], .val .str, .val (.int .i64)] [(.int .i64), (.eb 84 (.st (.pr (.int .i64) (.pr (.st (.pr (.int .i64) (.pr (.int .i64) (.pr (.int .i64) (.pr (.int .i64) (.pr .str (.pr (.sl (.st (.pr .str (.pr (.int .i64) .unit)))) .unit))))))) .unit))))] [.tmp 6, .tmp 7] (a0, a1, a2) = mark_lexer__escape a0 a1 a2 := by kernel_rfl
noncomputable def mark_lexer__escapeEnt : Nat × Go.Lf.Entry := (72, ⟨[.obj 57 (.st (.pr (.rw 33 (.st (.pr (.int .i64) (.pr .str (.pr .str (.pr (.int .i64) (.pr (.int .i64) .unit))))))) (.pr (.mr 75 (.st (.pr .str (.pr (.int .i64) (.pr (.int .i64) .unit))))) (.pr (.int .i64) (.pr (.st (.pr (.int .i64) (.pr .str (.pr .str (.pr (.int .i64) (.pr (.int .i64) .unit)))))) (.pr (.st (.pr (.int .i64) (.pr (.int .i64) .unit))) (.pr (.int .i64) (.pr (.int .i64) .unit)))))))) (.st (.pr (.rw 33 (.st (.pr (.int .i64) (.pr .str (.pr .str (.pr (.int .i64) (.pr (.int .i64) .unit))))))) (.pr (.mr 75 (.st (.pr .str (.pr (.int .i64) (.pr (.int .i64) .unit))))) (.pr (.int .i64) (.pr (.st (.pr (.int .i64) (.pr .str (.pr .str (.pr (.int .i64) (.pr (.int .i64) .unit)))))) (.pr (.st (.pr (.int .i64) (.pr (.int .i64) .unit))) (.pr (.int .i64) (.pr (.int .i64) .unit)))))))) [], .val .str, .val (.int .i64)], [(.int .i64), (.eb 84 (.st (.pr (.int .i64) (.pr (.st (.pr (.int .i64) (.pr (.int .i64) (.pr (.int .i64) (.pr (.int .i64) (.pr .str (.pr (.sl (.st (.pr .str (.pr (.int .i64) .unit)))) .unit))))))) .unit))))], fun z => mark_lexer__escape z.1 z.2.1 z.2.2⟩)
theorem mark_lexer__escape_ok : Go.Lf.EntryOk Go.Proofs.Tryd.prog GG 72 mark_lexer__escapeEnt.2 :=
  Go.Lf.fn_ok (c := mark_lexer__escapeCtx) (code := mark_lexer__escapeCode) (an := mark_lexer__escapeAnn) (slots := [.tmp 6, .tmp 7]) (fn := Go.Proofs.Tryd.f72) (by kernel_rfl) ⟨Tys_ok, Go.Lf.FnsOk.look (.con strings_IndexByte_ok (.con mark_wrong_ok (.con utf8_DecodeRuneInString_ok (.con mark_lexer__settle_ok (.con mark_lexer__put_ok .nil)))))⟩ (by kernel_rfl) (by kernel_rfl) (by kernel_rfl) (by kernel_rfl) (by kernel_rfl) (Nat.le_of_ble_eq_true rfl) (by simp [Go.Lf.Ty.top]) (by simp [Go.Lf.Ty.top]) fun z r h => (mark_lexer__escape_eq z.1 z.2.1 z.2.2).trans h
noncomputable def mark_lexer__tokenCtx : Go.Lf.Ctx := ⟨29, Tys, [mark_lexer__flushEnt, mark_lexer__settleEnt], [16], [], [(16, (.rw 33 (.st (.pr (.int .i64) (.pr .str (.pr .str (.pr (.int .i64) (.pr (.int .i64) .unit))))))))]⟩
noncomputable def mark_lexer__tokenCode : Go.Code := (Go.Proofs.Tryd.f74.body).getD .skip
def mark_lexer__tokenAnn : Go.Lf.Ann := (.seq .no (.seq .no (.soup 14)))
noncomputable def mark_lexer__token (a0 : (List ((Int) × ((List (UInt8)) × ((List (UInt8)) × ((Int) × ((Int) × (Unit))))))) × ((List ((List (UInt8)) × ((Int) × ((Int) × (Unit))))) × ((Int) × (((Int) × ((List (UInt8)) × ((List (UInt8)) × ((Int) × ((Int) × (Unit)))))) × (((Int) × ((Int) × (Unit))) × ((Int) × ((Int) × (Unit)))))))) (a1 : Int) (a2 : List (UInt8)) (a3 : Int) : Option ((List ((Int) × ((List (UInt8)) × ((List (UInt8)) × ((Int) × ((Int) × (Unit))))))) × ((List ((List (UInt8)) × ((Int) × ((Int) × (Unit))))) × ((Int) × (((Int) × ((List (UInt8)) × ((List (UInt8)) × ((Int) × ((Int) × (Unit)))))) × (((Int) × ((Int) × (Unit))) × ((Int) × ((Int) × (Unit)))))))) :=
 ((Go.Fn.mark_lexer__settle a0)).bind fun r1 =>
 ((Go.Fn.mark_lexer__flush r1)).bind fun r2 =>
 ((Go.Lf.app (56 : Nat) r2.1 ((a1, (a2, (([] : List (UInt8)), (r2.2.2.2.2.2.2.1, (a3, ()))))) :: ([] : List ((Int) × ((List (UInt8)) × ((List (UInt8)) × ((Int) × ((Int) × (Unit)))))))))).bind fun r3 =>
 some (r3, r2.2)
theorem mark_lexer__token_eq (a0 : (List ((Int) × ((List (UInt8)) × ((List (UInt8)) × ((Int) × ((Int) × (Unit))))))) × ((List ((List (UInt8)) × ((Int) × ((Int) × (Unit))))) × ((Int) × (((Int) × ((List (UInt8)) × ((List (UInt8)) × ((Int) × ((Int) × (Unit)))))) × (((Int) × ((Int) × (Unit))) × ((Int) × ((Int) × (Unit)))))))) (a1 : Int) (a2 : List (UInt8)) (a3 : Int) : Go.Lf.fnE mark_lexer__tokenCtx mark_lexer__tokenCode mark_lexer__tokenAnn [.obj 57 (.st (.pr (.rw 33 (.st (.pr (.int .i64) (.pr .str (.pr .str (.pr (.int .i64) (.pr (.int .i64) .unit))))))) (.pr (.mr 75 (.st (.pr .str (.pr (.int .i64) (.pr (.int .i64) .unit))))) (.pr (.int .i64) (.pr (.st (.pr (.int .i64) (.pr .str (.pr .str (.pr (.int .i64) (.pr (.int .i64) .unit)))))) (.pr (.st (.pr (.int .i64) (.pr (.int .i64) .unit))) (.pr (.int .i64) (.pr (.int .i64) .unit)))))))) (.st (.pr (.rw 33 (.st (.pr (.int .i64) (.pr .str (.pr .str (.pr (.int .i64) (.pr (.int .i64) .unit))))))) (.pr (.mr 75 (.st (.pr .str (.pr (.int .i64) (.pr (.int .i64) .unit))))) (.pr (.int .i64) (.pr (.st (.pr (.int .i64) (.pr .str (.pr .str (.pr (.int .i64) (.pr (.int .i64) .unit)))))) (.pr (.st (.pr (.int .i64) (.pr (.int .i64) .unit))) (.pr (.int .i64) (.pr (.int .i64) .unit)))))))) [], .val (.int .i64), .val .str, .val (.int .i64)] [] [] (a0, a1, a2, a3) = mark_lexer__token a0 a1 a2 a3 := by kernel_rfl
noncomputable def mark_lexer__tokenEnt : Nat × Go.Lf.Entry := (74, ⟨[.obj 57 (.st (.pr (.rw 33 (.st (.pr (.int .i64) (.pr .str (.pr .str (.pr (.int .i64) (.pr (.int .i64) .unit))))))) (.pr (.mr 75 (.st (.pr .str (.pr (.int .i64) (.pr (.int .i64) .unit))))) (.pr (.int .i64) (.pr (.st (.pr (.int .i64) (.pr .str (.pr .str (.pr (.int .i64) (.pr (.int .i64) .unit)))))) (.pr (.st (.pr (.int .i64) (.pr (.int .i64) .unit))) (.pr (.int .i64) (.pr (.int .i64) .unit)))))))) (.st (.pr (.rw 33 (.st (.pr (.int .i64) (.pr .str (.pr .str (.pr (.int .i64) (.pr (.int .i64) .unit))))))) (.pr (.mr 75 (.st (.pr .str (.pr (.int .i64) (.pr (.int .i64) .unit))))) (.pr (.int .i64) (.pr (.st (.pr (.int .i64) (.pr .str (.pr .str (.pr (.int .i64) (.pr (.int .i64) .unit)))))) (.pr (.st (.pr (.int .i64) (.pr (.int .i64) .unit))) (.pr (.int .i64) (.pr (.int .i64) .unit)))))))) [], .val (.int .i64), .val .str, .val (.int .i64)], [], fun z => mark_lexer__token z.1 z.2.1 z.2.2.1 z.2.2.2⟩)
theorem mark_lexer__token_ok : Go.Lf.EntryOk Go.Proofs.Tryd.prog GG 74 mark_lexer__tokenEnt.2 :=
  Go.Lf.fn_ok (c := mark_lexer__tokenCtx) (code := mark_lexer__tokenCode) (an := mark_lexer__tokenAnn) (slots := []) (fn := Go.Proofs.Tryd.f74) (by kernel_rfl) ⟨Tys_ok, Go.Lf.FnsOk.look (.con mark_lexer__flush_ok (.con mark_lexer__settle_ok .nil))⟩ (by kernel_rfl) (by kernel_rfl) (by kernel_rfl) (by kernel_rfl) (by kernel_rfl) (Nat.le_of_ble_eq_true rfl) (by simp [Go.Lf.Ty.top]) (by simp [Go.Lf.Ty.top]) fun z r h => (mark_lexer__token_eq z.1 z.2.1 z.2.2.1 z.2.2.2).trans h
noncomputable def mark_lexer__braceCtx : Go.Lf.Ctx := ⟨104, Tys, [mark_wrongEnt, mark_nameEnt, mark_blankedEnt, mark_lexer__tokenEnt], [86], [], [(86, (.rw 75 (.st (.pr .str (.pr (.int .i64) (.pr (.int .i64) .unit))))))]⟩
noncomputable def mark_lexer__braceCode : Go.Code := (Go.Proofs.Tryd.f73.body).getD .skip
def mark_lexer__braceAnn : Go.Lf.Ann := (.seq .no (.seq .no (.seq .no (.seq (.seq (.join (.one .nrm ⟨[2, 8, 9, 1], [(0, 0, [], 0)], [(50, .bool)], [(0, 57, (.st (.pr (.rw 33 (.st (.pr (.int .i64) (.pr .str (.pr .str (.pr (.int .i64) (.pr (.int .i64) .unit))))))) (.pr (.mr 75 (.st (.pr .str (.pr (.int .i64) (.pr (.int .i64) .unit))))) (.pr (.int .i64) (.pr (.st (.pr (.int .i64) (.pr .str (.pr .str (.pr (.int .i64) (.pr (.int .i64) .unit)))))) (.pr (.st (.pr (.int .i64) (.pr (.int .i64) .unit))) (.pr (.int .i64) (.pr (.int .i64) .unit)))))))))]⟩) .no) .no) (.seq .no (.seq .no (.seq .no (.seq (.soup 14) .no))))))))
noncomputable def mark_lexer__brace (a0 : (List ((Int) × ((List (UInt8)) × ((List (UInt8)) × ((Int) × ((Int) × (Unit))))))) × ((List ((List (UInt8)) × ((Int) × ((Int) × (Unit))))) × ((Int) × (((Int) × ((List (UInt8)) × ((List (UInt8)) × ((Int) × ((Int) × (Unit)))))) × (((Int) × ((Int) × (Unit))) × ((Int) × ((Int) × (Unit)))))))) (a1 : List (UInt8)) (a2 : Int) : Option ((Int) × ((Option ((Int) × (((Int) × ((Int) × ((Int) × ((Int) × ((List (UInt8)) × ((List ((List (UInt8)) × ((Int) × (Unit)))) × (Unit))))))) × (Unit)))) × ((List ((Int) × ((List (UInt8)) × ((List (UInt8)) × ((Int) × ((Int) × (Unit))))))) × ((List ((List (UInt8)) × ((Int) × ((Int) × (Unit))))) × ((Int) × (((Int) × ((List (UInt8)) × ((List (UInt8)) × ((Int) × ((Int) × (Unit)))))) × (((Int) × ((Int) × (Unit))) × ((Int) × ((Int) × (Unit)))))))))) :=
 ((Go.Lf.sub a1 (Go.IntKind.wrap .i64 (a2 + (1 : Int))) (((List.length a1) : Nat) : Int))).bind fun r1 =>
 ((Go.Fn.mark_name r1)).bind fun r2 =>
 (bif (!(decide ((r2 : Int) = (0 : Int)))) then bif (!(decide ((12 : Int) < r2))) then bif (decide ((Go.IntKind.wrap .i64 ((Go.IntKind.wrap .i64 (a2 + (1 : Int))) + r2)) < (((List.length a1) : Nat) : Int))) then ((Go.Lf.idx a1 (Go.IntKind.wrap .i64 ((Go.IntKind.wrap .i64 (a2 + (1 : Int))) + r2)))).bind fun r3 =>
   ((Go.Fn.mark_blanked (((UInt8.toNat r3) : Nat) : Int))).bind fun r4 =>
   bif (!r4) then ((Go.Lf.idx a1 (Go.IntKind.wrap .i64 ((Go.IntKind.wrap .i64 (a2 + (1 : Int))) + r2)))).bind fun r5 =>
   bif (decide (((((UInt8.toNat r5) : Nat) : Int) : Int) ≠ (124 : Int))) then ((Go.Lf.idx a1 (Go.IntKind.wrap .i64 ((Go.IntKind.wrap .i64 (a2 + (1 : Int))) + r2)))).bind fun r6 =>
   some ((decide (((((UInt8.toNat r6) : Nat) : Int) : Int) ≠ (125 : Int))), a0)
   else some (false, a0)
   else some (false, a0)
   else some (false, a0)
   else some (true, a0)
   else some (true, a0)).bind fun r7 =>
 bif r7.1 then ((Go.Fn.mark_wrong (43 : Int) r7.2.2.2.2.2.2.2.1 (Go.IntKind.wrap .i64 (a2 + (1 : Int))) ([] : List (UInt8)))).bind fun r8 =>
 some ((0 : Int), (r8, r7.2))
 else ((Go.Lf.sub a1 (Go.IntKind.wrap .i64 (a2 + (1 : Int))) (Go.IntKind.wrap .i64 ((Go.IntKind.wrap .i64 (a2 + (1 : Int))) + r2)))).bind fun r9 =>
 bif (decide ((16 : Int) ≤ (((List.length r7.2.2.1) : Nat) : Int))) then ((Go.Fn.mark_wrong (46 : Int) r7.2.2.2.2.2.2.2.1 (Go.IntKind.wrap .i64 (a2 + (1 : Int))) r9)).bind fun r10 =>
 some ((0 : Int), (r10, r7.2))
 else ((Go.Fn.mark_lexer__token r7.2 (3 : Int) r9 (Go.IntKind.wrap .i64 (a2 + (1 : Int))))).bind fun r11 =>
 ((Go.Lf.app (32 : Nat) r11.2.1 ((r9, (r11.2.2.2.2.2.2.1, ((Go.IntKind.wrap .i64 (a2 + (1 : Int))), ()))) :: ([] : List ((List (UInt8)) × ((Int) × ((Int) × (Unit)))))))).bind fun r12 =>
 some ((Go.IntKind.wrap .i64 ((1 : Int) + r2)), ((none : Option ((Int) × (((Int) × ((Int) × ((Int) × ((Int) × ((List (UInt8)) × ((List ((List (UInt8)) × ((Int) × (Unit)))) × (Unit))))))) × (Unit)))), (r11.1, (r12, (r11.2.2.1, (r11.2.2.2.1, (r11.2.2.2.2.1, ((1 : Int), r11.2.2.2.2.2.2))))))))
theorem mark_lexer__brace_eq (a0 : (List ((Int) × ((List (UInt8)) × ((List (UInt8)) × ((Int) × ((Int) × (Unit))))))) × ((List ((List (UInt8)) × ((Int) × ((Int) × (Unit))))) × ((Int) × (((Int) × ((List (UInt8)) × ((List (UInt8)) × ((Int) × ((Int) × (Unit)))))) × (((Int) × ((Int) × (Unit))) × ((Int) × ((Int) × (Unit)))))))) (a1 : List (UInt8)) (a2 : Int) : Go.Lf.fnE mark_lexer__braceCtx mark_lexer__braceCode mark_lexer__braceAnn [.obj 57 (.st (.pr (.rw 33 (.st (.pr (.int .i64) (.pr .str (.pr .str (.pr (.int .i64) (.pr (.int .i64) .unit))))))) (.pr (.mr 75 (.st (.pr .str (.pr (.int .i64) (.pr (.int .i64) .unit))))) (.pr (.int .i64) (.pr (.st (.pr (.int .i64) (.pr .str (.pr .str (.pr (.int .i64) (.pr (.int .i64) .unit)))))) (.pr (.st (.pr (.int .i64) (.pr (.int .i64) .unit))) (.pr (.int .i64) (.pr (.int .i64) .unit)))))))) (.st (.pr (.rw 33 (.st (.pr (.int .i64) (.pr .str (.pr .str (.pr (.int .i64) (.pr (.int .i64) .unit))))))) (.pr (.mr 75 (.st (.pr .str (.pr (.int .i64) (.pr (.int .i64) .unit))))) (.pr (.int .i64) (.pr (.st (.pr (.int .i64) (.pr .str (.pr .str (.pr (.int .i64) (.pr (.int .i64) .unit)))))) (.pr (.st (.pr (.int .i64) (.pr (.int .i64) .unit))) (.pr (.int .i64) (.pr (.int .i64) .unit)))))))) [], .val .str, .val (.int .i64)] [(.int .i64), (.eb 84 (.st (.pr (.int .i64) (.pr (.st (.pr (.int .i64) (.pr (.int .i64) (.pr (.int .i64) (.pr (.int .i64) (.pr .str (.pr (.sl (.st (.pr .str (.pr (.int .i64) .unit)))) .unit))))))) .unit))))] [.tmp 6, .tmp 7] (a0, a1, a2) = mark_lexer__brace a0 a1 a2 := by kernel_rfl
noncomputable def mark_lexer__braceEnt : Nat × Go.Lf.Entry := (73, ⟨[.obj 57 (.st (.pr (.rw 33 (.st (.pr (.int .i64) (.pr .str (.pr .str (.pr (.int .i64) (.pr (.int .i64) .unit))))))) (.pr (.mr 75 (.st (.pr .str (.pr (.int .i64) (.pr (.int .i64) .unit))))) (.pr (.int .i64) (.pr (.st (.pr (.int .i64) (.pr .str (.pr .str (.pr (.int .i64) (.pr (.int .i64) .unit)))))) (.pr (.st (.pr (.int .i64) (.pr (.int .i64) .unit))) (.pr (.int .i64) (.pr (.int .i64) .unit)))))))) (.st (.pr (.rw 33 (.st (.pr (.int .i64) (.pr .str (.pr .str (.pr (.int .i64) (.pr (.int .i64) .unit))))))) (.pr (.mr 75 (.st (.pr .str (.pr (.int .i64) (.pr (.int .i64) .unit))))) (.pr (.int .i64) (.pr (.st (.pr (.int .i64) (.pr .str (.pr .str (.pr (.int .i64) (.pr (.int .i64) .unit)))))) (.pr (.st (.pr (.int .i64) (.pr (.int .i64) .unit))) (.pr (.int .i64) (.pr (.int .i64) .unit)))))))) [], .val .str, .val (.int .i64)], [(.int .i64), (.eb 84 (.st (.pr (.int .i64) (.pr (.st (.pr (.int .i64) (.pr (.int .i64) (.pr (.int .i64) (.pr (.int .i64) (.pr .str (.pr (.sl (.st (.pr .str (.pr (.int .i64) .unit)))) .unit))))))) .unit))))], fun z => mark_lexer__brace z.1 z.2.1 z.2.2⟩)
theorem mark_lexer__brace_ok : Go.Lf.EntryOk Go.Proofs.Tryd.prog GG 73 mark_lexer__braceEnt.2 :=
  Go.Lf.fn_ok (c := mark_lexer__braceCtx) (code := mark_lexer__braceCode) (an := mark_lexer__braceAnn) (slots := [.tmp 6, .tmp 7]) (fn := Go.Proofs.Tryd.f73) (by kernel_rfl) ⟨Tys_ok, Go.Lf.FnsOk.look (.con mark_wrong_ok (.con mark_name_ok (.con mark_blanked_ok (.con mark_lexer__token_ok .nil))))⟩ (by kernel_rfl) (by kernel_rfl) (by kernel_rfl) (by kernel_rfl) (by kernel_rfl) (Nat.le_of_ble_eq_true rfl) (by simp [Go.Lf.Ty.top]) (by simp [Go.Lf.Ty.top]) fun z r h => (mark_lexer__brace_eq z.1 z.2.1 z.2.2).trans h
noncomputable def mark_lexer__charCtx : Go.Lf.Ctx := ⟨108, Tys, [mark_wrongEnt, utf8_DecodeRuneInStringEnt, mark_blankedEnt, mark_lexer__waitEnt, mark_lexer__escapeEnt, mark_lexer__braceEnt, mark_lexer__tokenEnt, mark_lexer__settleEnt, mark_lexer__putEnt], [85, 68], [], []⟩
noncomputable def mark_lexer__charCode : Go.Code := (Go.Proofs.Tryd.f61.body).getD .skip
def mark_lexer__charAnn : Go.Lf.Ann := (.seq .no (.seq .no (.seq (.seq .no (.seq .no (.cnd .no (.seq .no (.cnd .no (.seq .no (.cnd .no (.seq .no (.cnd .no (.seq (.join (.one .nrm ⟨[8, 2, 1], [(0, 0, [], 0)], [(71, .bool)], [(0, 57, (.st (.pr (.rw 33 (.st (.pr (.int .i64) (.pr .str (.pr .str (.pr (.int .i64) (.pr (.int .i64) .unit))))))) (.pr (.mr 75 (.st (.pr .str (.pr (.int .i64) (.pr (.int .i64) .unit))))) (.pr (.int .i64) (.pr (.st (.pr (.int .i64) (.pr .str (.pr .str (.pr (.int .i64) (.pr (.int .i64) .unit)))))) (.pr (.st (.pr (.int .i64) (.pr (.int .i64) .unit))) (.pr (.int .i64) (.pr (.int .i64) .unit)))))))))]⟩) .no) .no)))))))))) (.seq .no (.seq .no (.seq (.draw 12) .no))))))
noncomputable def mark_lexer__char (a0 : (List ((Int) × ((List (UInt8)) × ((List (UInt8)) × ((Int) × ((Int) × (Unit))))))) × ((List ((List (UInt8)) × ((Int) × ((Int) × (Unit))))) × ((Int) × (((Int) × ((List (UInt8)) × ((List (UInt8)) × ((Int) × ((Int) × (Unit)))))) × (((Int) × ((Int) × (Unit))) × ((Int) × ((Int) × (Unit)))))))) (a1 : List (UInt8)) (a2 : Int) : Option ((Int) × ((Option ((Int) × (((Int) × ((Int) × ((Int) × ((Int) × ((List (UInt8)) × ((List ((List (UInt8)) × ((Int) × (Unit)))) × (Unit))))))) × (Unit)))) × ((List ((Int) × ((List (UInt8)) × ((List (UInt8)) × ((Int) × ((Int) × (Unit))))))) × ((List ((List (UInt8)) × ((Int) × ((Int) × (Unit))))) × ((Int) × (((Int) × ((List (UInt8)) × ((List (UInt8)) × ((Int) × ((Int) × (Unit)))))) × (((Int) × ((Int) × (Unit))) × ((Int) × ((Int) × (Unit)))))))))) :=
 ((Go.Lf.idx a1 a2)).bind fun r1 =>
 ((Go.Fn.mark_blanked (((UInt8.toNat r1) : Nat) : Int))).bind fun r2 =>
 bif r2 then ((Go.Fn.mark_lexer__wait a0 (Go.IntKind.wrap .i64 (a2 + (1 : Int))))).bind fun r3 =>
 some ((1 : Int), ((none : Option ((Int) × (((Int) × ((Int) × ((Int) × ((Int) × ((List (UInt8)) × ((List ((List (UInt8)) × ((Int) × (Unit)))) × (Unit))))))) × (Unit)))), r3))
 else bif (decide (((((UInt8.toNat r1) : Nat) : Int) : Int) = (92 : Int))) then ((Go.Fn.mark_lexer__escape a0 a1 a2)).bind fun r4 =>
 some (r4.1, (r4.2.1, r4.2.2))
 else bif (decide (((((UInt8.toNat r1) : Nat) : Int) : Int) = (123 : Int))) then ((Go.Fn.mark_lexer__brace a0 a1 a2)).bind fun r5 =>
 some (r5.1, (r5.2.1, r5.2.2))
 else bif (decide (((((UInt8.toNat r1) : Nat) : Int) : Int) = (125 : Int))) then bif (decide (((((List.length a0.2.1) : Nat) : Int) : Int) = (0 : Int))) then ((Go.Fn.mark_wrong (44 : Int) a0.2.2.2.2.2.2.1 (Go.IntKind.wrap .i64 (a2 + (1 : Int))) ([] : List (UInt8)))).bind fun r6 =>
 some ((0 : Int), (r6, a0))
 else ((Go.Fn.mark_lexer__token a0 (5 : Int) ([] : List (UInt8)) (Go.IntKind.wrap .i64 (a2 + (1 : Int))))).bind fun r7 =>
 ((Go.Lf.sub r7.2.1 (0 : Int) (Go.IntKind.wrap .i64 ((((List.length a0.2.1) : Nat) : Int) - (1 : Int))))).bind fun r8 =>
 some ((1 : Int), ((none : Option ((Int) × (((Int) × ((Int) × ((Int) × ((Int) × ((List (UInt8)) × ((List ((List (UInt8)) × ((Int) × (Unit)))) × (Unit))))))) × (Unit)))), (r7.1, (r8, r7.2.2))))
 else (bif (decide (((((UInt8.toNat r1) : Nat) : Int) : Int) = (124 : Int))) then some ((decide ((0 : Int) < (((List.length a0.2.1) : Nat) : Int))), a0)
   else some (false, a0)).bind fun r9 =>
 bif r9.1 then ((Go.Fn.mark_lexer__token r9.2 (4 : Int) ([] : List (UInt8)) (Go.IntKind.wrap .i64 (a2 + (1 : Int))))).bind fun r10 =>
 some ((1 : Int), ((none : Option ((Int) × (((Int) × ((Int) × ((Int) × ((Int) × ((List (UInt8)) × ((List ((List (UInt8)) × ((Int) × (Unit)))) × (Unit))))))) × (Unit)))), r10))
 else ((Go.Lf.sub a1 a2 (((List.length a1) : Nat) : Int))).bind fun r11 =>
 ((Go.Fn.utf8_DecodeRuneInString r11)).bind fun r12 =>
 ((Go.Fn.mark_lexer__settle r9.2)).bind fun r13 =>
 ((Go.Lf.sub a1 a2 (Go.IntKind.wrap .i64 (a2 + r12.2)))).bind fun r14 =>
 ((Go.Fn.mark_lexer__put r13 r14 r13.2.2.2.2.2.2.1 (Go.IntKind.wrap .i64 (a2 + (1 : Int))))).bind fun r15 =>
 some (r12.2, ((none : Option ((Int) × (((Int) × ((Int) × ((Int) × ((Int) × ((List (UInt8)) × ((List ((List (UInt8)) × ((Int) × (Unit)))) × (Unit))))))) × (Unit)))), r15))
theorem mark_lexer__char_eq (a0 : (List ((Int) × ((List (UInt8)) × ((List (UInt8)) × ((Int) × ((Int) × (Unit))))))) × ((List ((List (UInt8)) × ((Int) × ((Int) × (Unit))))) × ((Int) × (((Int) × ((List (UInt8)) × ((List (UInt8)) × ((Int) × ((Int) × (Unit)))))) × (((Int) × ((Int) × (Unit))) × ((Int) × ((Int) × (Unit)))))))) (a1 : List (UInt8)) (a2 : Int) : Go.Lf.fnE mark_lexer__charCtx mark_lexer__charCode mark_lexer__charAnn [.obj 57 (.st (.pr (.rw 33 (.st (.pr (.int .i64) (.pr .str (.pr .str (.pr (.int .i64) (.pr (.int .i64) .unit))))))) (.pr (.mr 75 (.st (.pr .str (.pr (.int .i64) (.pr (.int .i64) .unit))))) (.pr (.int .i64) (.pr (.st (.pr (.int .i64) (.pr .str (.pr .str (.pr (.int .i64) (.pr (.int .i64) .unit)))))) (.pr (.st (.pr (.int .i64) (.pr (.int .i64) .unit))) (.pr (.int .i64) (.pr (.int .i64) .unit)))))))) (.st (.pr (.rw 33 (.st (.pr (.int .i64) (.pr .str (.pr .str (.pr (.int .i64) (.pr (.int .i64) .unit))))))) (.pr (.mr 75 (.st (.pr .str (.pr (.int .i64) (.pr (.int .i64) .unit))))) (.pr (.int .i64) (.pr (.st (.pr (.int .i64) (.pr .str (.pr .str (.pr (.int .i64) (.pr (.int .i64) .unit)))))) (.pr (.st (.pr (.int .i64) (.pr (.int .i64) .unit))) (.pr (.int .i64) (.pr (.int .i64) .unit)))))))) [], .val .str, .val (.int .i64)] [(.int .i64), (.eb 84 (.st (.pr (.int .i64) (.pr (.st (.pr (.int .i64) (.pr (.int .i64) (.pr (.int .i64) (.pr (.int .i64) (.pr .str (.pr (.sl (.st (.pr .str (.pr (.int .i64) .unit)))) .unit))))))) .unit))))] [.tmp 6, .tmp 7] (a0, a1, a2) = mark_lexer__char a0 a1 a2 := by kernel_rfl
noncomputable def mark_lexer__charEnt : Nat × Go.Lf.Entry := (61, ⟨[.obj 57 (.st (.pr (.rw 33 (.st (.pr (.int .i64) (.pr .str (.pr .str (.pr (.int .i64) (.pr (.int .i64) .unit))))))) (.pr (.mr 75 (.st (.pr .str (.pr (.int .i64) (.pr (.int .i64) .unit))))) (.pr (.int .i64) (.pr (.st (.pr (.int .i64) (.pr .str (.pr .str (.pr (.int .i64) (.pr (.int .i64) .unit)))))) (.pr (.st (.pr (.int .i64) (.pr (.int .i64) .unit))) (.pr (.int .i64) (.pr (.int .i64) .unit)))))))) (.st (.pr (.rw 33 (.st (.pr (.int .i64) (.pr .str (.pr .str (.pr (.int .i64) (.pr (.int .i64) .unit))))))) (.pr (.mr 75 (.st (.pr .str (.pr (.int .i64) (.pr (.int .i64) .unit))))) (.pr (.int .i64) (.pr (.st (.pr (.int .i64) (.pr .str (.pr .str (.pr (.int .i64) (.pr (.int .i64) .unit)))))) (.pr (.st (.pr (.int .i64) (.pr (.int .i64) .unit))) (.pr (.int .i64) (.pr (.int .i64) .unit)))))))) [], .val .str, .val (.int .i64)], [(.int .i64), (.eb 84 (.st (.pr (.int .i64) (.pr (.st (.pr (.int .i64) (.pr (.int .i64) (.pr (.int .i64) (.pr (.int .i64) (.pr .str (.pr (.sl (.st (.pr .str (.pr (.int .i64) .unit)))) .unit))))))) .unit))))], fun z => mark_lexer__char z.1 z.2.1 z.2.2⟩)
theorem mark_lexer__char_ok : Go.Lf.EntryOk Go.Proofs.Tryd.prog GG 61 mark_lexer__charEnt.2 :=
  Go.Lf.fn_ok (c := mark_lexer__charCtx) (code := mark_lexer__charCode) (an := mark_lexer__charAnn) (slots := [.tmp 6, .tmp 7]) (fn := Go.Proofs.Tryd.f61) (by kernel_rfl) ⟨Tys_ok, Go.Lf.FnsOk.look (.con mark_wrong_ok (.con utf8_DecodeRuneInString_ok (.con mark_blanked_ok (.con mark_lexer__wait_ok (.con mark_lexer__escape_ok (.con mark_lexer__brace_ok (.con mark_lexer__token_ok (.con mark_lexer__settle_ok (.con mark_lexer__put_ok .nil)))))))))⟩ (by kernel_rfl) (by kernel_rfl) (by kernel_rfl) (by kernel_rfl) (by kernel_rfl) (Nat.le_of_ble_eq_true rfl) (by simp [Go.Lf.Ty.top]) (by simp [Go.Lf.Ty.top]) fun z r h => (mark_lexer__char_eq z.1 z.2.1 z.2.2).trans h
noncomputable def mark_lexer__textCtx : Go.Lf.Ctx := ⟨41, Tys, [mark_lexer__charEnt, mark_lexer__waitEnt], [23], [], []⟩
noncomputable def mark_lexer__textCode : Go.Code := (Go.Proofs.Tryd.f41.body).getD .skip
def mark_lexer__textAnn : Go.Lf.Ann := (.seq .no (.seq (.join (.one .nrm ⟨[1], [(0, 0, [], 0)], [], [(0, 57, (.st (.pr (.rw 33 (.st (.pr (.int .i64) (.pr .str (.pr .str (.pr (.int .i64) (.pr (.int .i64) .unit))))))) (.pr (.mr 75 (.st (.pr .str (.pr (.int .i64) (.pr (.int .i64) .unit))))) (.pr (.int .i64) (.pr (.st (.pr (.int .i64) (.pr .str (.pr .str (.pr (.int .i64) (.pr (.int .i64) .unit)))))) (.pr (.st (.pr (.int .i64) (.pr (.int .i64) .unit))) (.pr (.int .i64) (.pr (.int .i64) .unit)))))))))]⟩) .no) (.seq (.seq .no (.loop ⟨[1], [(0, 0, [], 0)], [(5, (.int .i64))], [(0, 57, (.st (.pr (.rw 33 (.st (.pr (.int .i64) (.pr .str (.pr .str (.pr (.int .i64) (.pr (.int .i64) .unit))))))) (.pr (.mr 75 (.st (.pr .str (.pr (.int .i64) (.pr (.int .i64) .unit))))) (.pr (.int .i64) (.pr (.st (.pr (.int .i64) (.pr .str (.pr .str (.pr (.int .i64) (.pr (.int .i64) .unit)))))) (.pr (.st (.pr (.int .i64) (.pr (.int .i64) .unit))) (.pr (.int .i64) (.pr (.int .i64) .unit)))))))))]⟩ (.more (.ext 0) ⟨[1], [(0, 0, [], 0)], [], [(0, 57, (.st (.pr (.rw 33 (.st (.pr (.int .i64) (.pr .str (.pr .str (.pr (.int .i64) (.pr (.int .i64) .unit))))))) (.pr (.mr 75 (.st (.pr .str (.pr (.int .i64) (.pr (.int .i64) .unit))))) (.pr (.int .i64) (.pr (.st (.pr (.int .i64) (.pr .str (.pr .str (.pr (.int .i64) (.pr (.int .i64) .unit)))))) (.pr (.st (.pr (.int .i64) (.pr (.int .i64) .unit))) (.pr (.int .i64) (.pr (.int .i64) .unit)))))))))]⟩ (.one .ret ⟨[], [(0, 0, [], 0)], [(4, (.eb 84 (.st (.pr (.int .i64) (.pr (.st (.pr (.int .i64) (.pr (.int .i64) (.pr (.int .i64) (.pr (.int .i64) (.pr .str (.pr (.sl (.st (.pr .str (.pr (.int .i64) .unit)))) .unit))))))) .unit)))))], [(0, 57, (.st (.pr (.rw 33 (.st (.pr (.int .i64) (.pr .str (.pr .str (.pr (.int .i64) (.pr (.int .i64) .unit))))))) (.pr (.mr 75 (.st (.pr .str (.pr (.int .i64) (.pr (.int .i64) .unit))))) (.pr (.int .i64) (.pr (.st (.pr (.int .i64) (.pr .str (.pr .str (.pr (.int .i64) (.pr (.int .i64) .unit)))))) (.pr (.st (.pr (.int .i64) (.pr (.int .i64) .unit))) (.pr (.int .i64) (.pr (.int .i64) .unit)))))))))]⟩)) .no)) .no)))
noncomputable def mark_lexer__text (a0 : (List ((Int) × ((List (UInt8)) × ((List (UInt8)) × ((Int) × ((Int) × (Unit))))))) × ((List ((List (UInt8)) × ((Int) × ((Int) × (Unit))))) × ((Int) × (((Int) × ((List (UInt8)) × ((List (UInt8)) × ((Int) × ((Int) × (Unit)))))) × (((Int) × ((Int) × (Unit))) × ((Int) × ((Int) × (Unit)))))))) (a1 : List (UInt8)) : Option ((Option ((Int) × (((Int) × ((Int) × ((Int) × ((Int) × ((List (UInt8)) × ((List ((List (UInt8)) × ((Int) × (Unit)))) × (Unit))))))) × (Unit)))) × ((List ((Int) × ((List (UInt8)) × ((List (UInt8)) × ((Int) × ((Int) × (Unit))))))) × ((List ((List (UInt8)) × ((Int) × ((Int) × (Unit))))) × ((Int) × (((Int) × ((List (UInt8)) × ((List (UInt8)) × ((Int) × ((Int) × (Unit)))))) × (((Int) × ((Int) × (Unit))) × ((Int) × ((Int) × (Unit))))))))) :=
 (bif (decide ((a0.2.2.1 : Int) = (0 : Int))) then some (a0.1, (a0.2.1, ((1 : Int), (a0.2.2.2.1, (a0.2.2.2.2.1, ((1 : Int), a0.2.2.2.2.2.2))))))
   else some a0).bind fun r1 =>
 (Go.Lf.loopC (σ := (Int) × ((List ((Int) × ((List (UInt8)) × ((List (UInt8)) × ((Int) × ((Int) × (Unit))))))) × ((List ((List (UInt8)) × ((Int) × ((Int) × (Unit))))) × ((Int) × (((Int) × ((List (UInt8)) × ((List (UInt8)) × ((Int) × ((Int) × (Unit)))))) × (((Int) × ((Int) × (Unit))) × ((Int) × ((Int) × (Unit))))))))) (κ := ((List ((Int) × ((List (UInt8)) × ((List (UInt8)) × ((Int) × ((Int) × (Unit))))))) × ((List ((List (UInt8)) × ((Int) × ((Int) × (Unit))))) × ((Int) × (((Int) × ((List (UInt8)) × ((List (UInt8)) × ((Int) × ((Int) × (Unit)))))) × (((Int) × ((Int) × (Unit))) × ((Int) × ((Int) × (Unit)))))))) ⊕ ((Option ((Int) × (((Int) × ((Int) × ((Int) × ((Int) × ((List (UInt8)) × ((List ((List (UInt8)) × ((Int) × (Unit)))) × (Unit))))))) × (Unit)))) × ((List ((Int) × ((List (UInt8)) × ((List (UInt8)) × ((Int) × ((Int) × (Unit))))))) × ((List ((List (UInt8)) × ((Int) × ((Int) × (Unit))))) × ((Int) × (((Int) × ((List (UInt8)) × ((List (UInt8)) × ((Int) × ((Int) × (Unit)))))) × (((Int) × ((Int) × (Unit))) × ((Int) × ((Int) × (Unit)))))))))) (fun z2 =>
     bif (decide (z2.1 < (((List.length a1) : Nat) : Int))) then ((Go.Fn.mark_lexer__char z2.2 a1 z2.1)).bind fun r3 =>
     bif (Option.isSome r3.2.1) then some (.inr (.inr (r3.2.1, r3.2.2)))
     else some (.inl ((Go.IntKind.wrap .i64 (z2.1 + r3.1)), r3.2.2))
     else some (.inr (.inl z2.2))) ((0 : Int), r1) : Option (((List ((Int) × ((List (UInt8)) × ((List (UInt8)) × ((Int) × ((Int) × (Unit))))))) × ((List ((List (UInt8)) × ((Int) × ((Int) × (Unit))))) × ((Int) × (((Int) × ((List (UInt8)) × ((List (UInt8)) × ((Int) × ((Int) × (Unit)))))) × (((Int) × ((Int) × (Unit))) × ((Int) × ((Int) × (Unit)))))))) ⊕ ((Option ((Int) × (((Int) × ((Int) × ((Int) × ((Int) × ((List (UInt8)) × ((List ((List (UInt8)) × ((Int) × (Unit)))) × (Unit))))))) × (Unit)))) × ((List ((Int) × ((List (UInt8)) × ((List (UInt8)) × ((Int) × ((Int) × (Unit))))))) × ((List ((List (UInt8)) × ((Int) × ((Int) × (Unit))))) × ((Int) × (((Int) × ((List (UInt8)) × ((List (UInt8)) × ((Int) × ((Int) × (Unit)))))) × (((Int) × ((Int) × (Unit))) × ((Int) × ((Int) × (Unit))))))))))).bind fun r4 =>
 Go.Lf.onSum r4 (fun a5 =>
 ((Go.Fn.mark_lexer__wait a5 (Go.IntKind.wrap .i64 ((((List.length a1) : Nat) : Int) + (1 : Int))))).bind fun r6 =>
 some ((none : Option ((Int) × (((Int) × ((Int) × ((Int) × ((Int) × ((List (UInt8)) × ((List ((List (UInt8)) × ((Int) × (Unit)))) × (Unit))))))) × (Unit)))), r6)) (fun b7 =>
 some (b7.1, b7.2))
theorem mark_lexer__text_eq (a0 : (List ((Int) × ((List (UInt8)) × ((List (UInt8)) × ((Int) × ((Int) × (Unit))))))) × ((List ((List (UInt8)) × ((Int) × ((Int) × (Unit))))) × ((Int) × (((Int) × ((List (UInt8)) × ((List (UInt8)) × ((Int) × ((Int) × (Unit)))))) × (((Int) × ((Int) × (Unit))) × ((Int) × ((Int) × (Unit)))))))) (a1 : List (UInt8)) : Go.Lf.fnE mark_lexer__textCtx mark_lexer__textCode mark_lexer__textAnn [.obj 57 (.st (.pr (.rw 33 (.st (.pr (.int .i64) (.pr .str (.pr .str (.pr (.int .i64) (.pr (.int .i64) .unit))))))) (.pr (.mr 75 (.st (.pr .str (.pr (.int .i64) (.pr (.int .i64) .unit))))) (.pr (.int .i64) (.pr (.st (.pr (.int .i64) (.pr .str (.pr .str (.pr (.int .i64) (.pr (.int .i64) .unit)))))) (.pr (.st (.pr (.int .i64) (.pr (.int .i64) .unit))) (.pr (.int .i64) (.pr (.int .i64) .unit)))))))) (.st (.pr (.rw 33 (.st (.pr (.int .i64) (.pr .str (.pr .str (.pr (.int .i64) (.pr (.int .i64) .unit))))))) (.pr (.mr 75 (.st (.pr .str (.pr (.int .i64) (.pr (.int .i64) .unit))))) (.pr (.int .i64) (.pr (.st (.pr (.int .i64) (.pr .str (.pr .str (.pr (.int .i64) (.pr (.int .i64) .unit)))))) (.pr (.st (.pr (.int .i64) (.pr (.int .i64) .unit))) (.pr (.int .i64) (.pr (.int .i64) .unit)))))))) [], .val .str] [(.eb 84 (.st (.pr (.int .i64) (.pr (.st (.pr (.int .i64) (.pr (.int .i64) (.pr (.int .i64) (.pr (.int .i64) (.pr .str (.pr (.sl (.st (.pr .str (.pr (.int .i64) .unit)))) .unit))))))) .unit))))] [.tmp 4] (a0, a1) = mark_lexer__text a0 a1 := by kernel_rfl
noncomputable def mark_lexer__textEnt : Nat × Go.Lf.Entry := (41, ⟨[.obj 57 (.st (.pr (.rw 33 (.st (.pr (.int .i64) (.pr .str (.pr .str (.pr (.int .i64) (.pr (.int .i64) .unit))))))) (.pr (.mr 75 (.st (.pr .str (.pr (.int .i64) (.pr (.int .i64) .unit))))) (.pr (.int .i64) (.pr (.st (.pr (.int .i64) (.pr .str (.pr .str (.pr (.int .i64) (.pr (.int .i64) .unit)))))) (.pr (.st (.pr (.int .i64) (.pr (.int .i64) .unit))) (.pr (.int .i64) (.pr (.int .i64) .unit)))))))) (.st (.pr (.rw 33 (.st (.pr (.int .i64) (.pr .str (.pr .str (.pr (.int .i64) (.pr (.int .i64) .unit))))))) (.pr (.mr 75 (.st (.pr .str (.pr (.int .i64) (.pr (.int .i64) .unit))))) (.pr (.int .i64) (.pr (.st (.pr (.int .i64) (.pr .str (.pr .str (.pr (.int .i64) (.pr (.int .i64) .unit)))))) (.pr (.st (.pr (.int .i64) (.pr (.int .i64) .unit))) (.pr (.int .i64) (.pr (.int .i64) .unit)))))))) [], .val .str], [(.eb 84 (.st (.pr (.int .i64) (.pr (.st (.pr (.int .i64) (.pr (.int .i64) (.pr (.int .i64) (.pr (.int .i64) (.pr .str (.pr (.sl (.st (.pr .str (.pr (.int .i64) .unit)))) .unit))))))) .unit))))], fun z => mark_lexer__text z.1 z.2⟩)
theorem mark_lexer__text_ok : Go.Lf.EntryOk Go.Proofs.Tryd.prog GG 41 mark_lexer__textEnt.2 :=
  Go.Lf.fn_ok (c := mark_lexer__textCtx) (code := mark_lexer__textCode) (an := mark_lexer__textAnn) (slots := [.tmp 4]) (fn := Go.Proofs.Tryd.f41) (by kernel_rfl) ⟨Tys_ok, Go.Lf.FnsOk.look (.con mark_lexer__char_ok (.con mark_lexer__wait_ok .nil))⟩ (by kernel_rfl) (by kernel_rfl) (by kernel_rfl) (by kernel_rfl) (by kernel_rfl) (Nat.le_of_ble_eq_true rfl) (by simp [Go.Lf.Ty.top]) (by simp [Go.Lf.Ty.top]) fun z r h => (mark_lexer__text_eq z.1 z.2).trans h
noncomputable def mark_lexer__takeCtx : Go.Lf.Ctx := ⟨49, Tys, [mark_lexer__endEnt, mark_lexer__checkEnt, strings_HasPrefixEnt, strings_TrimEnt, mark_lexer__directiveEnt, mark_lexer__textEnt], [29], [], [(29, (.rw 33 (.st (.pr (.int .i64) (.pr .str (.pr .str (.pr (.int .i64) (.pr (.int .i64) .unit))))))))]⟩
noncomputable def mark_lexer__takeCode : Go.Code := (Go.Proofs.Tryd.f25.body).getD .skip
def mark_lexer__takeAnn : Go.Lf.Ann := (.seq .no (.seq .no (.seq (.seq .no (.cnd .no (.seq .no (.cnd (.seq .no (.seq (.soup 11) .no)) .no)))) .no)))
noncomputable def mark_lexer__take (a0 : (List ((Int) × ((List (UInt8)) × ((List (UInt8)) × ((Int) × ((Int) × (Unit))))))) × ((List ((List (UInt8)) × ((Int) × ((Int) × (Unit))))) × ((Int) × (((Int) × ((List (UInt8)) × ((List (UInt8)) × ((Int) × ((Int) × (Unit)))))) × (((Int) × ((Int) × (Unit))) × ((Int) × ((Int) × (Unit)))))))) (a1 : List (UInt8)) : Option ((Option ((Int) × (((Int) × ((Int) × ((Int) × ((Int) × ((List (UInt8)) × ((List ((List (UInt8)) × ((Int) × (Unit)))) × (Unit))))))) × (Unit)))) × ((List ((Int) × ((List (UInt8)) × ((List (UInt8)) × ((Int) × ((Int) × (Unit))))))) × ((List ((List (UInt8)) × ((Int) × ((Int) × (Unit))))) × ((Int) × (((Int) × ((List (UInt8)) × ((List (UInt8)) × ((Int) × ((Int) × (Unit)))))) × (((Int) × ((Int) × (Unit))) × ((Int) × ((Int) × (Unit))))))))) :=
 ((Go.Fn.mark_lexer__check a0 a1)).bind fun r1 =>
 bif (Option.isSome r1.1) then some (r1.1, r1.2)
 else ((Go.Fn.strings_HasPrefix a1 ((35 : UInt8) :: ([] : List (UInt8))))).bind fun r2 =>
 bif r2 then some ((none : Option ((Int) × (((Int) × ((Int) × ((Int) × ((Int) × ((List (UInt8)) × ((List ((List (UInt8)) × ((Int) × (Unit)))) × (Unit))))))) × (Unit)))), r1.2)
 else ((Go.Fn.strings_Trim a1 ((32 : UInt8) :: ((9 : UInt8) :: ([] : List (UInt8)))))).bind fun r3 =>
 bif (decide ((r3 : List (UInt8)) = ([] : List (UInt8)))) then ((Go.Fn.mark_lexer__end r1.2)).bind fun r4 =>
 bif (Option.isSome r4.1) then some (r4.1, r4.2)
 else ((Go.Lf.app (56 : Nat) r4.2.1 (((2 : Int), (([] : List (UInt8)), (([] : List (UInt8)), (r4.2.2.2.2.2.2.2.1, ((1 : Int), ()))))) :: ([] : List ((Int) × ((List (UInt8)) × ((List (UInt8)) × ((Int) × ((Int) × (Unit)))))))))).bind fun r5 =>
 some ((none : Option ((Int) × (((Int) × ((Int) × ((Int) × ((Int) × ((List (UInt8)) × ((List ((List (UInt8)) × ((Int) × (Unit)))) × (Unit))))))) × (Unit)))), (r5, r4.2.2))
 else ((Go.Lf.idx a1 (0 : Int))).bind fun r6 =>
 bif (decide (((((UInt8.toNat r6) : Nat) : Int) : Int) = (46 : Int))) then ((Go.Fn.mark_lexer__directive r1.2 a1)).bind fun r7 =>
 some (r7.1, r7.2)
 else ((Go.Fn.mark_lexer__text r1.2 a1)).bind fun r8 =>
 some (r8.1, r8.2)
theorem mark_lexer__take_eq (a0 : (List ((Int) × ((List (UInt8)) × ((List (UInt8)) × ((Int) × ((Int) × (Unit))))))) × ((List ((List (UInt8)) × ((Int) × ((Int) × (Unit))))) × ((Int) × (((Int) × ((List (UInt8)) × ((List (UInt8)) × ((Int) × ((Int) × (Unit)))))) × (((Int) × ((Int) × (Unit))) × ((Int) × ((Int) × (Unit)))))))) (a1 : List (UInt8)) : Go.Lf.fnE mark_lexer__takeCtx mark_lexer__takeCode mark_lexer__takeAnn [.obj 57 (.st (.pr (.rw 33 (.st (.pr (.int .i64) (.pr .str (.pr .str (.pr (.int .i64) (.pr (.int .i64) .unit))))))) (.pr (.mr 75 (.st (.pr .str (.pr (.int .i64) (.pr (.int .i64) .unit))))) (.pr (.int .i64) (.pr (.st (.pr (.int .i64) (.pr .str (.pr .str (.pr (.int .i64) (.pr (.int .i64) .unit)))))) (.pr (.st (.pr (.int .i64) (.pr (.int .i64) .unit))) (.pr (.int .i64) (.pr (.int .i64) .unit)))))))) (.st (.pr (.rw 33 (.st (.pr (.int .i64) (.pr .str (.pr .str (.pr (.int .i64) (.pr (.int .i64) .unit))))))) (.pr (.mr 75 (.st (.pr .str (.pr (.int .i64) (.pr (.int .i64) .unit))))) (.pr (.int .i64) (.pr (.st (.pr (.int .i64) (.pr .str (.pr .str (.pr (.int .i64) (.pr (.int .i64) .unit)))))) (.pr (.st (.pr (.int .i64) (.pr (.int .i64) .unit))) (.pr (.int .i64) (.pr (.int .i64) .unit)))))))) [], .val .str] [(.eb 84 (.st (.pr (.int .i64) (.pr (.st (.pr (.int .i64) (.pr (.int .i64) (.pr (.int .i64) (.pr (.int .i64) (.pr .str (.pr (.sl (.st (.pr .str (.pr (.int .i64) .unit)))) .unit))))))) .unit))))] [.tmp 4] (a0, a1) = mark_lexer__take a0 a1 := by kernel_rfl
noncomputable def mark_lexer__takeEnt : Nat × Go.Lf.Entry := (25, ⟨[.obj 57 (.st (.pr (.rw 33 (.st (.pr (.int .i64) (.pr .str (.pr .str (.pr (.int .i64) (.pr (.int .i64) .unit))))))) (.pr (.mr 75 (.st (.pr .str (.pr (.int .i64) (.pr (.int .i64) .unit))))) (.pr (.int .i64) (.pr (.st (.pr (.int .i64) (.pr .str (.pr .str (.pr (.int .i64) (.pr (.int .i64) .unit)))))) (.pr (.st (.pr (.int .i64) (.pr (.int .i64) .unit))) (.pr (.int .i64) (.pr (.int .i64) .unit)))))))) (.st (.pr (.rw 33 (.st (.pr (.int .i64) (.pr .str (.pr .str (.pr (.int .i64) (.pr (.int .i64) .unit))))))) (.pr (.mr 75 (.st (.pr .str (.pr (.int .i64) (.pr (.int .i64) .unit))))) (.pr (.int .i64) (.pr (.st (.pr (.int .i64) (.pr .str (.pr .str (.pr (.int .i64) (.pr (.int .i64) .unit)))))) (.pr (.st (.pr (.int .i64) (.pr (.int .i64) .unit))) (.pr (.int .i64) (.pr (.int .i64) .unit)))))))) [], .val .str], [(.eb 84 (.st (.pr (.int .i64) (.pr (.st (.pr (.int .i64) (.pr (.int .i64) (.pr (.int .i64) (.pr (.int .i64) (.pr .str (.pr (.sl (.st (.pr .str (.pr (.int .i64) .unit)))) .unit))))))) .unit))))], fun z => mark_lexer__take z.1 z.2⟩)
theorem mark_lexer__take_ok : Go.Lf.EntryOk Go.Proofs.Tryd.prog GG 25 mark_lexer__takeEnt.2 :=
  Go.Lf.fn_ok (c := mark_lexer__takeCtx) (code := mark_lexer__takeCode) (an := mark_lexer__takeAnn) (slots := [.tmp 4]) (fn := Go.Proofs.Tryd.f25) (by kernel_rfl) ⟨Tys_ok, Go.Lf.FnsOk.look (.con mark_lexer__end_ok (.con mark_lexer__check_ok (.con strings_HasPrefix_ok (.con strings_Trim_ok (.con mark_lexer__directive_ok (.con mark_lexer__text_ok .nil))))))⟩ (by kernel_rfl) (by kernel_rfl) (by kernel_rfl) (by kernel_rfl) (by kernel_rfl) (Nat.le_of_ble_eq_true rfl) (by simp [Go.Lf.Ty.top]) (by simp [Go.Lf.Ty.top]) fun z r h => (mark_lexer__take_eq z.1 z.2).trans h
noncomputable def mark_LexCtx : Go.Lf.Ctx := ⟨55, Tys, [mark_wrongEnt, strings_CutEnt, strings_TrimSuffixEnt, mark_lexer__takeEnt, mark_lexer__endEnt], [2, 54], [], [(2, (.rw 33 (.st (.pr (.int .i64) (.pr .str (.pr .str (.pr (.int .i64) (.pr (.int .i64) .unit)))))))), (14, (.st (.pr (.rw 33 (.st (.pr (.int .i64) (.pr .str (.pr .str (.pr (.int .i64) (.pr (.int .i64) .unit))))))) (.pr (.mr 75 (.st (.pr .str (.pr (.int .i64) (.pr (.int .i64) .unit))))) (.pr (.int .i64) (.pr (.st (.pr (.int .i64) (.pr .str (.pr .str (.pr (.int .i64) (.pr (.int .i64) .unit)))))) (.pr (.st (.pr (.int .i64) (.pr (.int .i64) .unit))) (.pr (.int .i64) (.pr (.int .i64) .unit))))))))), (54, (.rw 33 (.st (.pr (.int .i64) (.pr .str (.pr .str (.pr (.int .i64) (.pr (.int .i64) .unit))))))))]⟩
noncomputable def mark_LexCode : Go.Code := (Go.Proofs.Tryd.f12.body).getD .skip
def mark_LexAnn : Go.Lf.Ann := (.seq .no (.seq .no (.seq .no (.seq (.loop ⟨[], [(4, 15, [], 0)], [(0, .str)], [(15, 57, (.st (.pr (.rw 33 (.st (.pr (.int .i64) (.pr .str (.pr .str (.pr (.int .i64) (.pr (.int .i64) .unit))))))) (.pr (.mr 75 (.st (.pr .str (.pr (.int .i64) (.pr (.int .i64) .unit))))) (.pr (.int .i64) (.pr (.st (.pr (.int .i64) (.pr .str (.pr .str (.pr (.int .i64) (.pr (.int .i64) .unit)))))) (.pr (.st (.pr (.int .i64) (.pr (.int .i64) .unit))) (.pr (.int .i64) (.pr (.int .i64) .unit)))))))))]⟩ (.more (.ext 0) ⟨[], [(4, 15, [], 0)], [], [(15, 57, (.st (.pr (.rw 33 (.st (.pr (.int .i64) (.pr .str (.pr .str (.pr (.int .i64) (.pr (.int .i64) .unit))))))) (.pr (.mr 75 (.st (.pr .str (.pr (.int .i64) (.pr (.int .i64) .unit))))) (.pr (.int .i64) (.pr (.st (.pr (.int .i64) (.pr .str (.pr .str (.pr (.int .i64) (.pr (.int .i64) .unit)))))) (.pr (.st (.pr (.int .i64) (.pr (.int .i64) .unit))) (.pr (.int .i64) (.pr (.int .i64) .unit)))))))))]⟩ (.one .ret ⟨[], [], [(2, (.rw 33 (.st (.pr (.int .i64) (.pr .str (.pr .str (.pr (.int .i64) (.pr (.int .i64) .unit)))))))), (3, (.eb 84 (.st (.pr (.int .i64) (.pr (.st (.pr (.int .i64) (.pr (.int .i64) (.pr (.int .i64) (.pr (.int .i64) (.pr .str (.pr (.sl (.st (.pr .str (.pr (.int .i64) .unit)))) .unit))))))) .unit)))))], []⟩)) (.seq .no (.seq .no (.seq .no (.seq .no (.seq (.join (.one .nrm ⟨[0], [(4, 15, [], 0)], [(5, .str)], [(15, 57, (.st (.pr (.rw 33 (.st (.pr (.int .i64) (.pr .str (.pr .str (.pr (.int .i64) (.pr (.int .i64) .unit))))))) (.pr (.mr 75 (.st (.pr .str (.pr (.int .i64) (.pr (.int .i64) .unit))))) (.pr (.int .i64) (.pr (.st (.pr (.int .i64) (.pr .str (.pr .str (.pr (.int .i64) (.pr (.int .i64) .unit)))))) (.pr (.st (.pr (.int .i64) (.pr (.int .i64) .unit))) (.pr (.int .i64) (.pr (.int .i64) .unit)))))))))]⟩) (.seq (.join (.one .nrm ⟨[0, 5], [(4, 15, [], 0)], [(37, .bool)], [(15, 57, (.st (.pr (.rw 33 (.st (.pr (.int .i64) (.pr .str (.pr .str (.pr (.int .i64) (.pr (.int .i64) .unit))))))) (.pr (.mr 75 (.st (.pr .str (.pr (.int .i64) (.pr (.int .i64) .unit))))) (.pr (.int .i64) (.pr (.st (.pr (.int .i64) (.pr .str (.pr .str (.pr (.int .i64) (.pr (.int .i64) .unit)))))) (.pr (.st (.pr (.int .i64) (.pr (.int .i64) .unit))) (.pr (.int .i64) (.pr (.int .i64) .unit)))))))))]⟩) .no) .no)) .no)))))) .no))))
noncomputable def mark_Lex (a0 : List (UInt8)) : Option ((List ((Int) × ((List (UInt8)) × ((List (UInt8)) × ((Int) × ((Int) × (Unit))))))) × (Option ((Int) × (((Int) × ((Int) × ((Int) × ((Int) × ((List (UInt8)) × ((List ((List (UInt8)) × ((Int) × (Unit)))) × (Unit))))))) × (Unit))))) :=
 bif (decide ((65536 : Int) < (((List.length a0) : Nat) : Int))) then ((Go.Fn.mark_wrong (2 : Int) (0 : Int) (0 : Int) ([] : List (UInt8)))).bind fun r1 =>
 some (([] : List ((Int) × ((List (UInt8)) × ((List (UInt8)) × ((Int) × ((Int) × (Unit))))))), r1)
 else (Go.Lf.loopC (σ := (List (UInt8)) × ((List ((Int) × ((List (UInt8)) × ((List (UInt8)) × ((Int) × ((Int) × (Unit))))))) × ((List ((List (UInt8)) × ((Int) × ((Int) × (Unit))))) × ((Int) × (((Int) × ((List (UInt8)) × ((List (UInt8)) × ((Int) × ((Int) × (Unit)))))) × (((Int) × ((Int) × (Unit))) × ((Int) × ((Int) × (Unit))))))))) (κ := ((List ((Int) × ((List (UInt8)) × ((List (UInt8)) × ((Int) × ((Int) × (Unit))))))) × ((List ((List (UInt8)) × ((Int) × ((Int) × (Unit))))) × ((Int) × (((Int) × ((List (UInt8)) × ((List (UInt8)) × ((Int) × ((Int) × (Unit)))))) × (((Int) × ((Int) × (Unit))) × ((Int) × ((Int) × (Unit)))))))) ⊕ ((List ((Int) × ((List (UInt8)) × ((List (UInt8)) × ((Int) × ((Int) × (Unit))))))) × (Option ((Int) × (((Int) × ((Int) × ((Int) × ((Int) × ((List (UInt8)) × ((List ((List (UInt8)) × ((Int) × (Unit)))) × (Unit))))))) × (Unit)))))) (fun z2 =>
     bif (decide ((0 : Int) < (((List.length z2.1) : Nat) : Int))) then ((Go.Fn.strings_Cut z2.1 ((10 : UInt8) :: ([] : List (UInt8))))).bind fun r3 =>
     ((bif (!r3.2.2) then some ((decide ((r3.2.1 : List (UInt8)) = ([] : List (UInt8)))), (z2.2.1, (z2.2.2.1, (z2.2.2.2.1, (z2.2.2.2.2.1, (z2.2.2.2.2.2.1, (z2.2.2.2.2.2.2.1, ((Go.IntKind.wrap .i64 (z2.2.2.2.2.2.2.2.1 + (1 : Int))), z2.2.2.2.2.2.2.2.2))))))))
         else some (true, (z2.2.1, (z2.2.2.1, (z2.2.2.2.1, (z2.2.2.2.2.1, (z2.2.2.2.2.2.1, (z2.2.2.2.2.2.2.1, ((Go.IntKind.wrap .i64 (z2.2.2.2.2.2.2.2.1 + (1 : Int))), z2.2.2.2.2.2.2.2.2))))))))).bind fun r4 =>
       bif r4.1 then ((Go.Fn.strings_TrimSuffix r3.1 ((13 : UInt8) :: ([] : List (UInt8))))).bind fun r5 =>
       some (r5, r4.2)
       else some (r3.1, r4.2)).bind fun r6 =>
     ((Go.Fn.mark_lexer__take r6.2 r6.1)).bind fun r7 =>
     bif (Option.isSome r7.1) then some (.inr (.inr (([] : List ((Int) × ((List (UInt8)) × ((List (UInt8)) × ((Int) × ((Int) × (Unit))))))), r7.1)))
     else some (.inl (r3.2.1, r7.2))
     else some (.inr (.inl z2.2))) (a0, (([] : List ((Int) × ((List (UInt8)) × ((List (UInt8)) × ((Int) × ((Int) × (Unit))))))), (([] : List ((List (UInt8)) × ((Int) × ((Int) × (Unit))))), ((0 : Int), (((0 : Int), (([] : List (UInt8)), (([] : List (UInt8)), ((0 : Int), ((0 : Int), ()))))), (((0 : Int), ((0 : Int), ())), ((0 : Int), ((0 : Int), ())))))))) : Option (((List ((Int) × ((List (UInt8)) × ((List (UInt8)) × ((Int) × ((Int) × (Unit))))))) × ((List ((List (UInt8)) × ((Int) × ((Int) × (Unit))))) × ((Int) × (((Int) × ((List (UInt8)) × ((List (UInt8)) × ((Int) × ((Int) × (Unit)))))) × (((Int) × ((Int) × (Unit))) × ((Int) × ((Int) × (Unit)))))))) ⊕ ((List ((Int) × ((List (UInt8)) × ((List (UInt8)) × ((Int) × ((Int) × (Unit))))))) × (Option ((Int) × (((Int) × ((Int) × ((Int) × ((Int) × ((List (UInt8)) × ((List ((List (UInt8)) × ((Int) × (Unit)))) × (Unit))))))) × (Unit))))))).bind fun r8 =>
 Go.Lf.onSum r8 (fun a9 =>
 ((Go.Fn.mark_lexer__end a9)).bind fun r10 =>
 bif (Option.isSome r10.1) then some (([] : List ((Int) × ((List (UInt8)) × ((List (UInt8)) × ((Int) × ((Int) × (Unit))))))), r10.1)
 else some (r10.2.1, (none : Option ((Int) × (((Int) × ((Int) × ((Int) × ((Int) × ((List (UInt8)) × ((List ((List (UInt8)) × ((Int) × (Unit)))) × (Unit))))))) × (Unit)))))) (fun b11 =>
 some (b11.1, b11.2))
theorem mark_Lex_eq (a0 : List (UInt8)) : Go.Lf.fnE mark_LexCtx mark_LexCode mark_LexAnn [.val .str] [(.rw 33 (.st (.pr (.int .i64) (.pr .str (.pr .str (.pr (.int .i64) (.pr (.int .i64) .unit))))))), (.eb 84 (.st (.pr (.int .i64) (.pr (.st (.pr (.int .i64) (.pr (.int .i64) (.pr (.int .i64) (.pr (.int .i64) (.pr .str (.pr (.sl (.st (.pr .str (.pr (.int .i64) .unit)))) .unit))))))) .unit))))] [.tmp 2, .tmp 3] (a0) = mark_Lex a0 := by kernel_rfl
noncomputable def mark_LexEnt : Nat × Go.Lf.Entry := (12, ⟨[.val .str], [(.rw 33 (.st (.pr (.int .i64) (.pr .str (.pr .str (.pr (.int .i64) (.pr (.int .i64) .unit))))))), (.eb 84 (.st (.pr (.int .i64) (.pr (.st (.pr (.int .i64) (.pr (.int .i64) (.pr (.int .i64) (.pr (.int .i64) (.pr .str (.pr (.sl (.st (.pr .str (.pr (.int .i64) .unit)))) .unit))))))) .unit))))], fun z => mark_Lex z⟩)
theorem mark_Lex_ok : Go.Lf.EntryOk Go.Proofs.Tryd.prog GG 12 mark_LexEnt.2 :=
  Go.Lf.fn_ok (c := mark_LexCtx) (code := mark_LexCode) (an := mark_LexAnn) (slots := [.tmp 2, .tmp 3]) (fn := Go.Proofs.Tryd.f12) (by kernel_rfl) ⟨Tys_ok, Go.Lf.FnsOk.look (.con mark_wrong_ok (.con strings_Cut_ok (.con strings_TrimSuffix_ok (.con mark_lexer__take_ok (.con mark_lexer__end_ok .nil)))))⟩ (by kernel_rfl) (by kernel_rfl) (by kernel_rfl) (by kernel_rfl) (by kernel_rfl) (Nat.le_of_ble_eq_true rfl) (by simp [Go.Lf.Ty.top]) (by simp [Go.Lf.Ty.top]) fun z r h => (mark_Lex_eq z).trans h
noncomputable def fault_Error__isCtx : Go.Lf.Ctx := ⟨12, Tys, [], [], [], []⟩
noncomputable def fault_Error__isCode : Go.Code := (Go.Proofs.Tryd.f67.body).getD .skip
def fault_Error__isAnn : Go.Lf.Ann := (.seq .no (.seq (.join (.one .nrm ⟨[], [], [(2, .bool)], []⟩) .no) .no))
noncomputable def fault_Error__is (a0 : Option ((Int) × (((Int) × ((Int) × ((Int) × ((Int) × ((List (UInt8)) × ((List ((List (UInt8)) × ((Int) × (Unit)))) × (Unit))))))) × (Unit)))) : Option (Bool) :=
 (bif (Option.isSome a0) then (a0).bind fun r1 =>
   some (decide ((r1.1 : Int) = (1 : Int)))
   else some false).bind fun r2 =>
 some r2
theorem fault_Error__is_eq (a0 : Option ((Int) × (((Int) × ((Int) × ((Int) × ((Int) × ((List (UInt8)) × ((List ((List (UInt8)) × ((Int) × (Unit)))) × (Unit))))))) × (Unit)))) : Go.Lf.fnE fault_Error__isCtx fault_Error__isCode fault_Error__isAnn [.val (.op (.st (.pr (.int .i64) (.pr (.st (.pr (.int .i64) (.pr (.int .i64) (.pr (.int .i64) (.pr (.int .i64) (.pr .str (.pr (.sl (.st (.pr .str (.pr (.int .i64) .unit)))) .unit))))))) .unit))))] [.bool] [.tmp 2] (a0) = fault_Error__is a0 := by kernel_rfl
noncomputable def fault_Error__isEnt : Nat × Go.Lf.Entry := (67, ⟨[.val (.op (.st (.pr (.int .i64) (.pr (.st (.pr (.int .i64) (.pr (.int .i64) (.pr (.int .i64) (.pr (.int .i64) (.pr .str (.pr (.sl (.st (.pr .str (.pr (.int .i64) .unit)))) .unit))))))) .unit))))], [.bool], fun z => fault_Error__is z⟩)
theorem fault_Error__is_ok : Go.Lf.EntryOk Go.Proofs.Tryd.prog GG 67 fault_Error__isEnt.2 :=
  Go.Lf.fn_ok (c := fault_Error__isCtx) (code := fault_Error__isCode) (an := fault_Error__isAnn) (slots := [.tmp 2]) (fn := Go.Proofs.Tryd.f67) (by kernel_rfl) ⟨Tys_ok, Go.Lf.FnsOk.look .nil⟩ (by kernel_rfl) (by kernel_rfl) (by kernel_rfl) (by kernel_rfl) (by kernel_rfl) (Nat.le_of_ble_eq_true rfl) (by simp [Go.Lf.Ty.top]) (by simp [Go.Lf.Ty.top]) fun z r h => (fault_Error__is_eq z).trans h
noncomputable def fault_gatherCtx : Go.Lf.Ctx := ⟨110, Tys, [fault_Error__isEnt], [2, 6, 37, 65, 84, 92, 106, 109], [], [(2, (.rw 69 (.st (.pr (.int .i64) (.pr (.int .i64) (.pr (.int .i64) (.pr (.int .i64) (.pr .str (.pr (.sl (.st (.pr .str (.pr (.int .i64) .unit)))) .unit))))))))), (6, (.rw 69 (.st (.pr (.int .i64) (.pr (.int .i64) (.pr (.int .i64) (.pr (.int .i64) (.pr .str (.pr (.sl (.st (.pr .str (.pr (.int .i64) .unit)))) .unit))))))))), (37, (.rw 69 (.st (.pr (.int .i64) (.pr (.int .i64) (.pr (.int .i64) (.pr (.int .i64) (.pr .str (.pr (.sl (.st (.pr .str (.pr (.int .i64) .unit)))) .unit))))))))), (65, (.rw 69 (.st (.pr (.int .i64) (.pr (.int .i64) (.pr (.int .i64) (.pr (.int .i64) (.pr .str (.pr (.sl (.st (.pr .str (.pr (.int .i64) .unit)))) .unit))))))))), (84, (.rw 69 (.st (.pr (.int .i64) (.pr (.int .i64) (.pr (.int .i64) (.pr (.int .i64) (.pr .str (.pr (.sl (.st (.pr .str (.pr (.int .i64) .unit)))) .unit))))))))), (92, (.rw 69 (.st (.pr (.int .i64) (.pr (.int .i64) (.pr (.int .i64) (.pr (.int .i64) (.pr .str (.pr (.sl (.st (.pr .str (.pr (.int .i64) .unit)))) .unit))))))))), (106, (.rw 69 (.st (.pr (.int .i64) (.pr (.int .i64) (.pr (.int .i64) (.pr (.int .i64) (.pr .str (.pr (.sl (.st (.pr .str (.pr (.int .i64) .unit)))) .unit))))))))), (109, (.rw 69 (.st (.pr (.int .i64) (.pr (.int .i64) (.pr (.int .i64) (.pr (.int .i64) (.pr .str (.pr (.sl (.st (.pr .str (.pr (.int .i64) .unit)))) .unit)))))))))]⟩
noncomputable def fault_gatherCode : Go.Code := (Go.Proofs.Tryd.f47.body).getD .skip
def fault_gatherAnn : Go.Lf.Ann := (.seq .no (.seq (.join (.one .nrm ⟨[], [], [(2, (.rw 69 (.st (.pr (.int .i64) (.pr (.int .i64) (.pr (.int .i64) (.pr (.int .i64) (.pr .str (.pr (.sl (.st (.pr .str (.pr (.int .i64) .unit)))) .unit)))))))))], []⟩) (.seq .no (.seq .no (.cnd .no (.seq .no (.cnd (.seq .no (.seq .no (.cnd (.seq .no (.seq (.join (.one .nrm ⟨[], [(9, 9, [], 0), (4, 4, [], 0)], [(2, (.rw 69 (.st (.pr (.int .i64) (.pr (.int .i64) (.pr (.int .i64) (.pr (.int .i64) (.pr .str (.pr (.sl (.st (.pr .str (.pr (.int .i64) .unit)))) .unit)))))))))], [(9, 69, (.st (.pr (.int .i64) (.pr (.int .i64) (.pr (.int .i64) (.pr (.int .i64) (.pr .str (.pr (.sl (.st (.pr .str (.pr (.int .i64) .unit)))) .unit)))))))), (4, 82, (.st (.pr (.int .i64) (.pr (.int .i64) (.pr (.sl (.st (.pr .str (.pr (.int .i64) .unit)))) .unit)))))]⟩) .no) .no)) .no))) .no)))))) .no))
noncomputable def fault_gather (a0 : Option ((Int) × (((Int) × ((Int) × ((Int) × ((Int) × ((List (UInt8)) × ((List ((List (UInt8)) × ((Int) × (Unit)))) × (Unit))))))) × (Unit)))) (a1 : (Int) × ((Int) × ((List ((List (UInt8)) × ((Int) × (Unit)))) × (Unit)))) (a2 : List ((Int) × ((Int) × ((Int) × ((Int) × ((List (UInt8)) × ((List ((List (UInt8)) × ((Int) × (Unit)))) × (Unit)))))))) : Option (List ((Int) × ((Int) × ((Int) × ((Int) × ((List (UInt8)) × ((List ((List (UInt8)) × ((Int) × (Unit)))) × (Unit)))))))) :=
 (bif (Option.isNone a0) then some a2
   else bif (Option.isSome a0) then ((Go.Fn.fault_Error__is a0)).bind fun r1 =>
   bif r1 then (a0).bind fun r2 =>
   (bif (decide ((a1.1 : Int) = (1 : Int))) then some (a2, ((r2.2.1.1, (a1.2.1, r2.2.1.2.2)), a1))
     else some (a2, (r2.2.1, a1))).bind fun r3 =>
   ((Go.Lf.app (24 : Nat) ([] : List ((List (UInt8)) × ((Int) × (Unit)))) r3.2.2.2.2.1)).bind fun r4 =>
   ((Go.Lf.app (72 : Nat) r3.1 ((r3.2.1.1, (r3.2.1.2.1, (r3.2.1.2.2.1, (r3.2.1.2.2.2.1, (r3.2.1.2.2.2.2.1, (r4, r3.2.1.2.2.2.2.2.2)))))) :: ([] : List ((Int) × ((Int) × ((Int) × ((Int) × ((List (UInt8)) × ((List ((List (UInt8)) × ((Int) × (Unit)))) × (Unit))))))))))).bind fun r5 =>
   some r5
   else some a2
   else (bif (Option.isSome a0) then none
     else some ()).bind fun r6 =>
   (bif (Option.isSome a0) then none
     else some ()).bind fun r7 =>
   some a2).bind fun r8 =>
 some r8
theorem fault_gather_eq (a0 : Option ((Int) × (((Int) × ((Int) × ((Int) × ((Int) × ((List (UInt8)) × ((List ((List (UInt8)) × ((Int) × (Unit)))) × (Unit))))))) × (Unit)))) (a1 : (Int) × ((Int) × ((List ((List (UInt8)) × ((Int) × (Unit)))) × (Unit)))) (a2 : List ((Int) × ((Int) × ((Int) × ((Int) × ((List (UInt8)) × ((List ((List (UInt8)) × ((Int) × (Unit)))) × (Unit)))))))) : Go.Lf.fnE fault_gatherCtx fault_gatherCode fault_gatherAnn [.val (.eb 84 (.st (.pr (.int .i64) (.pr (.st (.pr (.int .i64) (.pr (.int .i64) (.pr (.int .i64) (.pr (.int .i64) (.pr .str (.pr (.sl (.st (.pr .str (.pr (.int .i64) .unit)))) .unit))))))) .unit)))), .val (.st (.pr (.int .i64) (.pr (.int .i64) (.pr (.sl (.st (.pr .str (.pr (.int .i64) .unit)))) .unit)))), .val (.rw 69 (.st (.pr (.int .i64) (.pr (.int .i64) (.pr (.int .i64) (.pr (.int .i64) (.pr .str (.pr (.sl (.st (.pr .str (.pr (.int .i64) .unit)))) .unit))))))))] [(.rw 69 (.st (.pr (.int .i64) (.pr (.int .i64) (.pr (.int .i64) (.pr (.int .i64) (.pr .str (.pr (.sl (.st (.pr .str (.pr (.int .i64) .unit)))) .unit))))))))] [.tmp 6] (a0, a1, a2) = fault_gather a0 a1 a2 := by kernel_rfl
noncomputable def fault_gatherEnt : Nat × Go.Lf.Entry := (47, ⟨[.val (.eb 84 (.st (.pr (.int .i64) (.pr (.st (.pr (.int .i64) (.pr (.int .i64) (.pr (.int .i64) (.pr (.int .i64) (.pr .str (.pr (.sl (.st (.pr .str (.pr (.int .i64) .unit)))) .unit))))))) .unit)))), .val (.st (.pr (.int .i64) (.pr (.int .i64) (.pr (.sl (.st (.pr .str (.pr (.int .i64) .unit)))) .unit)))), .val (.rw 69 (.st (.pr (.int .i64) (.pr (.int .i64) (.pr (.int .i64) (.pr (.int .i64) (.pr .str (.pr (.sl (.st (.pr .str (.pr (.int .i64) .unit)))) .unit))))))))], [(.rw 69 (.st (.pr (.int .i64) (.pr (.int .i64) (.pr (.int .i64) (.pr (.int .i64) (.pr .str (.pr (.sl (.st (.pr .str (.pr (.int .i64) .unit)))) .unit))))))))], fun z => fault_gather z.1 z.2.1 z.2.2⟩)
theorem fault_gather_ok : Go.Lf.EntryOk Go.Proofs.Tryd.prog GG 47 fault_gatherEnt.2 :=
  Go.Lf.fn_ok (c := fault_gatherCtx) (code := fault_gatherCode) (an := fault_gatherAnn) (slots := [.tmp 6]) (fn := Go.Proofs.Tryd.f47) (by kernel_rfl) ⟨Tys_ok, Go.Lf.FnsOk.look (.con fault_Error__is_ok .nil)⟩ (by kernel_rfl) (by kernel_rfl) (by kernel_rfl) (by kernel_rfl) (by kernel_rfl) (Nat.le_of_ble_eq_true rfl) (by simp [Go.Lf.Ty.top]) (by simp [Go.Lf.Ty.top]) fun z r h => (fault_gather_eq z.1 z.2.1 z.2.2).trans h
noncomputable def fault_bareCtx : Go.Lf.Ctx := ⟨30, Tys, [], [2, 3, 8, 12], [], [(2, (.rw 104 (.st (.pr .str (.pr (.int .i64) .unit))))), (3, (.rw 104 (.st (.pr .str (.pr (.int .i64) .unit))))), (8, (.rw 104 (.st (.pr .str (.pr (.int .i64) .unit))))), (12, (.rw 104 (.st (.pr .str (.pr (.int .i64) .unit)))))]⟩
noncomputable def fault_bareCode : Go.Code := (Go.Proofs.Tryd.f48.body).getD .skip
def fault_bareAnn : Go.Lf.Ann := (.seq .no (.seq .no (.loop ⟨[], [], [(3, (.rw 104 (.st (.pr .str (.pr (.int .i64) .unit))))), (0, (.eb 84 (.st (.pr (.int .i64) (.pr (.st (.pr (.int .i64) (.pr (.int .i64) (.pr (.int .i64) (.pr (.int .i64) (.pr .str (.pr (.sl (.st (.pr .str (.pr (.int .i64) .unit)))) .unit))))))) .unit)))))], []⟩ (.one .ret ⟨[], [], [(2, (.rw 104 (.st (.pr .str (.pr (.int .i64) .unit)))))], []⟩) .no)))
noncomputable def fault_bare (a0 : Option ((Int) × (((Int) × ((Int) × ((Int) × ((Int) × ((List (UInt8)) × ((List ((List (UInt8)) × ((Int) × (Unit)))) × (Unit))))))) × (Unit)))) : Option (List ((List (UInt8)) × ((Int) × (Unit)))) :=
 (Go.Lf.loopC (σ := (List ((List (UInt8)) × ((Int) × (Unit)))) × (Option ((Int) × (((Int) × ((Int) × ((Int) × ((Int) × ((List (UInt8)) × ((List ((List (UInt8)) × ((Int) × (Unit)))) × (Unit))))))) × (Unit))))) (κ := List ((List (UInt8)) × ((Int) × (Unit)))) (fun z1 =>
     some (.inr z1.1)) (([] : List ((List (UInt8)) × ((Int) × (Unit)))), a0) : Option (List ((List (UInt8)) × ((Int) × (Unit))))).bind fun r2 =>
 some r2
theorem fault_bare_eq (a0 : Option ((Int) × (((Int) × ((Int) × ((Int) × ((Int) × ((List (UInt8)) × ((List ((List (UInt8)) × ((Int) × (Unit)))) × (Unit))))))) × (Unit)))) : Go.Lf.fnE fault_bareCtx fault_bareCode fault_bareAnn [.val (.eb 84 (.st (.pr (.int .i64) (.pr (.st (.pr (.int .i64) (.pr (.int .i64) (.pr (.int .i64) (.pr (.int .i64) (.pr .str (.pr (.sl (.st (.pr .str (.pr (.int .i64) .unit)))) .unit))))))) .unit))))] [(.rw 104 (.st (.pr .str (.pr (.int .i64) .unit))))] [.tmp 2] (a0) = fault_bare a0 := by kernel_rfl
noncomputable def fault_bareEnt : Nat × Go.Lf.Entry := (48, ⟨[.val (.eb 84 (.st (.pr (.int .i64) (.pr (.st (.pr (.int .i64) (.pr (.int .i64) (.pr (.int .i64) (.pr (.int .i64) (.pr .str (.pr (.sl (.st (.pr .str (.pr (.int .i64) .unit)))) .unit))))))) .unit))))], [(.rw 104 (.st (.pr .str (.pr (.int .i64) .unit))))], fun z => fault_bare z⟩)
theorem fault_bare_ok : Go.Lf.EntryOk Go.Proofs.Tryd.prog GG 48 fault_bareEnt.2 :=
  Go.Lf.fn_ok (c := fault_bareCtx) (code := fault_bareCode) (an := fault_bareAnn) (slots := [.tmp 2]) (fn := Go.Proofs.Tryd.f48) (by kernel_rfl) ⟨Tys_ok, Go.Lf.FnsOk.look .nil⟩ (by kernel_rfl) (by kernel_rfl) (by kernel_rfl) (by kernel_rfl) (by kernel_rfl) (Nat.le_of_ble_eq_true rfl) (by simp [Go.Lf.Ty.top]) (by simp [Go.Lf.Ty.top]) fun z r h => (fault_bare_eq z).trans h
noncomputable def fault_AllCtx : Go.Lf.Ctx := ⟨17, Tys, [fault_gatherEnt, fault_bareEnt], [2, 3, 12], [], [(2, (.rw 69 (.st (.pr (.int .i64) (.pr (.int .i64) (.pr (.int .i64) (.pr (.int .i64) (.pr .str (.pr (.sl (.st (.pr .str (.pr (.int .i64) .unit)))) .unit))))))))), (3, (.rw 69 (.st (.pr (.int .i64) (.pr (.int .i64) (.pr (.int .i64) (.pr (.int .i64) (.pr .str (.pr (.sl (.st (.pr .str (.pr (.int .i64) .unit)))) .unit))))))))), (12, (.rw 69 (.st (.pr (.int .i64) (.pr (.int .i64) (.pr (.int .i64) (.pr (.int .i64) (.pr .str (.pr (.sl (.st (.pr .str (.pr (.int .i64) .unit)))) .unit)))))))))]⟩
noncomputable def fault_AllCode : Go.Code := (Go.Proofs.Tryd.f33.body).getD .skip
def fault_AllAnn : Go.Lf.Ann := .no
noncomputable def fault_All (a0 : Option ((Int) × (((Int) × ((Int) × ((Int) × ((Int) × ((List (UInt8)) × ((List ((List (UInt8)) × ((Int) × (Unit)))) × (Unit))))))) × (Unit)))) : Option (List ((Int) × ((Int) × ((Int) × ((Int) × ((List (UInt8)) × ((List ((List (UInt8)) × ((Int) × (Unit)))) × (Unit)))))))) :=
 bif (Option.isNone a0) then some ([] : List ((Int) × ((Int) × ((Int) × ((Int) × ((List (UInt8)) × ((List ((List (UInt8)) × ((Int) × (Unit)))) × (Unit))))))))
 else ((Go.Fn.fault_gather a0 ((0 : Int), ((0 : Int), (([] : List ((List (UInt8)) × ((Int) × (Unit)))), ()))) ([] : List ((Int) × ((Int) × ((Int) × ((Int) × ((List (UInt8)) × ((List ((List (UInt8)) × ((Int) × (Unit)))) × (Unit)))))))))).bind fun r1 =>
 bif (decide ((0 : Int) < (((List.length r1) : Nat) : Int))) then some r1
 else ((Go.Fn.fault_bare a0)).bind fun r2 =>
 some (((10 : Int), ((0 : Int), ((0 : Int), ((0 : Int), (([] : List (UInt8)), (r2, ())))))) :: ([] : List ((Int) × ((Int) × ((Int) × ((Int) × ((List (UInt8)) × ((List ((List (UInt8)) × ((Int) × (Unit)))) × (Unit)))))))))
theorem fault_All_eq (a0 : Option ((Int) × (((Int) × ((Int) × ((Int) × ((Int) × ((List (UInt8)) × ((List ((List (UInt8)) × ((Int) × (Unit)))) × (Unit))))))) × (Unit)))) : Go.Lf.fnE fault_AllCtx fault_AllCode fault_AllAnn [.val (.eb 84 (.st (.pr (.int .i64) (.pr (.st (.pr (.int .i64) (.pr (.int .i64) (.pr (.int .i64) (.pr (.int .i64) (.pr .str (.pr (.sl (.st (.pr .str (.pr (.int .i64) .unit)))) .unit))))))) .unit))))] [(.rw 69 (.st (.pr (.int .i64) (.pr (.int .i64) (.pr (.int .i64) (.pr (.int .i64) (.pr .str (.pr (.sl (.st (.pr .str (.pr (.int .i64) .unit)))) .unit))))))))] [.tmp 2] (a0) = fault_All a0 := by kernel_rfl
noncomputable def fault_AllEnt : Nat × Go.Lf.Entry := (33, ⟨[.val (.eb 84 (.st (.pr (.int .i64) (.pr (.st (.pr (.int .i64) (.pr (.int .i64) (.pr (.int .i64) (.pr (.int .i64) (.pr .str (.pr (.sl (.st (.pr .str (.pr (.int .i64) .unit)))) .unit))))))) .unit))))], [(.rw 69 (.st (.pr (.int .i64) (.pr (.int .i64) (.pr (.int .i64) (.pr (.int .i64) (.pr .str (.pr (.sl (.st (.pr .str (.pr (.int .i64) .unit)))) .unit))))))))], fun z => fault_All z⟩)
theorem fault_All_ok : Go.Lf.EntryOk Go.Proofs.Tryd.prog GG 33 fault_AllEnt.2 :=
  Go.Lf.fn_ok (c := fault_AllCtx) (code := fault_AllCode) (an := fault_AllAnn) (slots := [.tmp 2]) (fn := Go.Proofs.Tryd.f33) (by kernel_rfl) ⟨Tys_ok, Go.Lf.FnsOk.look (.con fault_gather_ok (.con fault_bare_ok .nil))⟩ (by kernel_rfl) (by kernel_rfl) (by kernel_rfl) (by kernel_rfl) (by kernel_rfl) (Nat.le_of_ble_eq_true rfl) (by simp [Go.Lf.Ty.top]) (by simp [Go.Lf.Ty.top]) fun z r h => (fault_All_eq z).trans h
noncomputable def fault_ToldCtx : Go.Lf.Ctx := ⟨13, Tys, [fault_AllEnt], [], [], []⟩
noncomputable def fault_ToldCode : Go.Code := (Go.Proofs.Tryd.f32.body).getD .skip
def fault_ToldAnn : Go.Lf.Ann := .no
noncomputable def fault_Told (a0 : Option ((Int) × (((Int) × ((Int) × ((Int) × ((Int) × ((List (UInt8)) × ((List ((List (UInt8)) × ((Int) × (Unit)))) × (Unit))))))) × (Unit)))) : Option ((Int) × ((Int) × ((Int) × ((Int) × ((List (UInt8)) × ((List ((List (UInt8)) × ((Int) × (Unit)))) × (Unit))))))) :=
 ((Go.Fn.fault_All a0)).bind fun r1 =>
 bif (decide (((((List.length r1) : Nat) : Int) : Int) = (0 : Int))) then some ((0 : Int), ((0 : Int), ((0 : Int), ((0 : Int), (([] : List (UInt8)), (([] : List ((List (UInt8)) × ((Int) × (Unit)))), ()))))))
 else ((Go.Lf.idx r1 (0 : Int))).bind fun r2 =>
 some r2
theorem fault_Told_eq (a0 : Option ((Int) × (((Int) × ((Int) × ((Int) × ((Int) × ((List (UInt8)) × ((List ((List (UInt8)) × ((Int) × (Unit)))) × (Unit))))))) × (Unit)))) : Go.Lf.fnE fault_ToldCtx fault_ToldCode fault_ToldAnn [.val (.eb 84 (.st (.pr (.int .i64) (.pr (.st (.pr (.int .i64) (.pr (.int .i64) (.pr (.int .i64) (.pr (.int .i64) (.pr .str (.pr (.sl (.st (.pr .str (.pr (.int .i64) .unit)))) .unit))))))) .unit))))] [(.st (.pr (.int .i64) (.pr (.int .i64) (.pr (.int .i64) (.pr (.int .i64) (.pr .str (.pr (.sl (.st (.pr .str (.pr (.int .i64) .unit)))) .unit)))))))] [.cell 2 69] (a0) = fault_Told a0 := by kernel_rfl
noncomputable def fault_ToldEnt : Nat × Go.Lf.Entry := (32, ⟨[.val (.eb 84 (.st (.pr (.int .i64) (.pr (.st (.pr (.int .i64) (.pr (.int .i64) (.pr (.int .i64) (.pr (.int .i64) (.pr .str (.pr (.sl (.st (.pr .str (.pr (.int .i64) .unit)))) .unit))))))) .unit))))], [(.st (.pr (.int .i64) (.pr (.int .i64) (.pr (.int .i64) (.pr (.int .i64) (.pr .str (.pr (.sl (.st (.pr .str (.pr (.int .i64) .unit)))) .unit)))))))], fun z => fault_Told z⟩)
theorem fault_Told_ok : Go.Lf.EntryOk Go.Proofs.Tryd.prog GG 32 fault_ToldEnt.2 :=
  Go.Lf.fn_ok (c := fault_ToldCtx) (code := fault_ToldCode) (an := fault_ToldAnn) (slots := [.cell 2 69]) (fn := Go.Proofs.Tryd.f32) (by kernel_rfl) ⟨Tys_ok, Go.Lf.FnsOk.look (.con fault_All_ok .nil)⟩ (by kernel_rfl) (by kernel_rfl) (by kernel_rfl) (by kernel_rfl) (by kernel_rfl) (Nat.le_of_ble_eq_true rfl) (by simp [Go.Lf.Ty.top]) (by simp [Go.Lf.Ty.top]) fun z r h => (fault_Told_eq z).trans h
noncomputable def foliolaw04_toldCtx : Go.Lf.Ctx := ⟨60, Tys, [fault_ToldEnt, fault_AllEnt], [], [], []⟩
noncomputable def foliolaw04_toldCode : Go.Code := (Go.Proofs.Tryd.f21.body).getD .skip
def foliolaw04_toldAnn : Go.Lf.Ann := (.seq .no (.seq .no (.seq .no (.seq (.join (.one .nrm ⟨[], [], [(4, .bool)], []⟩) .no) .no))))
noncomputable def foliolaw04_told (a0 : Option ((Int) × (((Int) × ((Int) × ((Int) × ((Int) × ((List (UInt8)) × ((List ((List (UInt8)) × ((Int) × (Unit)))) × (Unit))))))) × (Unit)))) (a1 : (Int) × ((Int) × ((Int) × ((List (UInt8)) × (Unit))))) : Option (Bool) :=
 bif (decide ((a1.1 : Int) = (0 : Int))) then some (Option.isNone a0)
 else ((Go.Fn.fault_Told a0)).bind fun r1 =>
 (bif (Option.isSome a0) then bif (decide ((r1.1 : Int) = a1.1)) then bif (decide ((r1.2.1 : Int) = (0 : Int))) then bif (decide ((r1.2.2.1 : Int) = a1.2.1)) then bif (decide ((r1.2.2.2.1 : Int) = a1.2.2.1)) then bif (decide ((r1.2.2.2.2.1 : List (UInt8)) = a1.2.2.2.1)) then bif (decide (((((List.length r1.2.2.2.2.2.1) : Nat) : Int) : Int) = (0 : Int))) then ((Go.Fn.fault_All a0)).bind fun r2 =>
   some (decide (((((List.length r2) : Nat) : Int) : Int) = (1 : Int)))
   else some false
   else some false
   else some false
   else some false
   else some false
   else some false
   else some false).bind fun r3 =>
 some r3
theorem foliolaw04_told_eq (a0 : Option ((Int) × (((Int) × ((Int) × ((Int) × ((Int) × ((List (UInt8)) × ((List ((List (UInt8)) × ((Int) × (Unit)))) × (Unit))))))) × (Unit)))) (a1 : (Int) × ((Int) × ((Int) × ((List (UInt8)) × (Unit))))) : Go.Lf.fnE foliolaw04_toldCtx foliolaw04_toldCode foliolaw04_toldAnn [.val (.eb 84 (.st (.pr (.int .i64) (.pr (.st (.pr (.int .i64) (.pr (.int .i64) (.pr (.int .i64) (.pr (.int .i64) (.pr .str (.pr (.sl (.st (.pr .str (.pr (.int .i64) .unit)))) .unit))))))) .unit)))), .val (.st (.pr (.int .i64) (.pr (.int .i64) (.pr (.int .i64) (.pr .str .unit)))))] [.bool] [.tmp 4] (a0, a1) = foliolaw04_told a0 a1 := by kernel_rfl
noncomputable def foliolaw04_toldEnt : Nat × Go.Lf.Entry := (21, ⟨[.val (.eb 84 (.st (.pr (.int .i64) (.pr (.st (.pr (.int .i64) (.pr (.int .i64) (.pr (.int .i64) (.pr (.int .i64) (.pr .str (.pr (.sl (.st (.pr .str (.pr (.int .i64) .unit)))) .unit))))))) .unit)))), .val (.st (.pr (.int .i64) (.pr (.int .i64) (.pr (.int .i64) (.pr .str .unit)))))], [.bool], fun z => foliolaw04_told z.1 z.2⟩)
theorem foliolaw04_told_ok : Go.Lf.EntryOk Go.Proofs.Tryd.prog GG 21 foliolaw04_toldEnt.2 :=
  Go.Lf.fn_ok (c := foliolaw04_toldCtx) (code := foliolaw04_toldCode) (an := foliolaw04_toldAnn) (slots := [.tmp 4]) (fn := Go.Proofs.Tryd.f21) (by kernel_rfl) ⟨Tys_ok, Go.Lf.FnsOk.look (.con fault_Told_ok (.con fault_All_ok .nil))⟩ (by kernel_rfl) (by kernel_rfl) (by kernel_rfl) (by kernel_rfl) (by kernel_rfl) (Nat.le_of_ble_eq_true rfl) (by simp [Go.Lf.Ty.top]) (by simp [Go.Lf.Ty.top]) fun z r h => (foliolaw04_told_eq z.1 z.2).trans h
noncomputable def foliolaw04_awakeCtx : Go.Lf.Ctx := ⟨64, Tys, [mark_EscapeEnt, mark_LexEnt, foliolaw04_toldEnt], [], [], []⟩
noncomputable def foliolaw04_awakeCode : Go.Code := (Go.Proofs.Tryd.f11.body).getD .skip
def foliolaw04_awakeAnn : Go.Lf.Ann := (.seq .no (.seq .no (.seq .no (.seq (.join (.one .nrm ⟨[], [], [(0, .bool)], []⟩) .no) .no))))
noncomputable def foliolaw04_awake  : Option (Bool) :=
 ((Go.Fn.mark_Lex ((111 : UInt8) :: ((110 : UInt8) :: ((101 : UInt8) :: ((32 : UInt8) :: ((123 : UInt8) :: ((98 : UInt8) :: ((32 : UInt8) :: ((116 : UInt8) :: ((119 : UInt8) :: ((111 : UInt8) :: ((125 : UInt8) :: ((32 : UInt8) :: ((32 : UInt8) :: ((116 : UInt8) :: ((104 : UInt8) :: ((114 : UInt8) :: ((101 : UInt8) :: ((101 : UInt8) :: ((10 : UInt8) :: ((102 : UInt8) :: ((111 : UInt8) :: ((117 : UInt8) :: ((114 : UInt8) :: ([] : List (UInt8))))))))))))))))))))))))))).bind fun r1 =>
 ((Go.Fn.mark_Lex ((46 : UInt8) :: ((116 : UInt8) :: ((111 : UInt8) :: ((112 : UInt8) :: ((105 : UInt8) :: ((99 : UInt8) :: ((115 : UInt8) :: ((49 : UInt8) :: ([] : List (UInt8)))))))))))).bind fun r2 =>
 (bif (Option.isNone r1.2) then bif (decide (((((List.length r1.1) : Nat) : Int) : Int) = (5 : Int))) then ((Go.Lf.idx r1.1 (0 : Int))).bind fun r3 =>
   bif (decide ((r3.2.2.1 : List (UInt8)) = ((111 : UInt8) :: ((110 : UInt8) :: ((101 : UInt8) :: ((32 : UInt8) :: ([] : List (UInt8)))))))) then ((Go.Lf.idx r1.1 (1 : Int))).bind fun r4 =>
   bif (decide ((r4.2.1 : List (UInt8)) = ((98 : UInt8) :: ([] : List (UInt8))))) then ((Go.Lf.idx r1.1 (1 : Int))).bind fun r5 =>
   bif (decide ((r5.2.2.2.2.1 : Int) = (5 : Int))) then ((Go.Lf.idx r1.1 (4 : Int))).bind fun r6 =>
   bif (decide ((r6.2.2.1 : List (UInt8)) = ((32 : UInt8) :: ((116 : UInt8) :: ((104 : UInt8) :: ((114 : UInt8) :: ((101 : UInt8) :: ((101 : UInt8) :: ((32 : UInt8) :: ((102 : UInt8) :: ((111 : UInt8) :: ((117 : UInt8) :: ((114 : UInt8) :: ([] : List (UInt8))))))))))))))) then ((Go.Lf.idx r1.1 (4 : Int))).bind fun r7 =>
   bif (decide ((r7.1 : Int) = (6 : Int))) then ((Go.Fn.foliolaw04_told r2.2 ((41 : Int), ((1 : Int), ((2 : Int), (((116 : UInt8) :: ((111 : UInt8) :: ((112 : UInt8) :: ((105 : UInt8) :: ((99 : UInt8) :: ((115 : UInt8) :: ([] : List (UInt8)))))))), ())))))).bind fun r8 =>
   bif r8 then ((Go.Fn.mark_Escape ((46 : UInt8) :: ((97 : UInt8) :: ((123 : UInt8) :: ([] : List (UInt8))))))).bind fun r9 =>
   some (decide ((r9 : List (UInt8)) = ((92 : UInt8) :: ((46 : UInt8) :: ((97 : UInt8) :: ((92 : UInt8) :: ((123 : UInt8) :: ([] : List (UInt8)))))))))
   else some false
   else some false
   else some false
   else some false
   else some false
   else some false
   else some false
   else some false).bind fun r10 =>
 some r10
theorem foliolaw04_awake_eq  : Go.Lf.fnE foliolaw04_awakeCtx foliolaw04_awakeCode foliolaw04_awakeAnn [] [.bool] [.tmp 0] () = foliolaw04_awake  := by kernel_rfl
noncomputable def foliolaw04_awakeEnt : Nat × Go.Lf.Entry := (11, ⟨[], [.bool], fun _ => foliolaw04_awake ⟩)
theorem foliolaw04_awake_ok : Go.Lf.EntryOk Go.Proofs.Tryd.prog GG 11 foliolaw04_awakeEnt.2 :=
  Go.Lf.fn_ok (c := foliolaw04_awakeCtx) (code := foliolaw04_awakeCode) (an := foliolaw04_awakeAnn) (slots := [.tmp 0]) (fn := Go.Proofs.Tryd.f11) (by kernel_rfl) ⟨Tys_ok, Go.Lf.FnsOk.look (.con mark_Escape_ok (.con mark_Lex_ok (.con foliolaw04_told_ok .nil)))⟩ (by kernel_rfl) (by kernel_rfl) (by kernel_rfl) (by kernel_rfl) (by kernel_rfl) (Nat.le_of_ble_eq_true rfl) (by simp [Go.Lf.Ty.top]) (by simp [Go.Lf.Ty.top]) fun z r h => (foliolaw04_awake_eq ).trans h
noncomputable def foliolaw04_MarkEscapesCtx : Go.Lf.Ctx := ⟨11, Tys, [mark_EscapeEnt, folioref04_EscapeEnt, foliolaw04_awakeEnt], [], [], []⟩
noncomputable def foliolaw04_MarkEscapesCode : Go.Code := (Go.Proofs.Tryd.f3.body).getD .skip
def foliolaw04_MarkEscapesAnn : Go.Lf.Ann := (.seq .no (.seq (.join (.one .nrm ⟨[], [], [(2, .bool)], []⟩) .no) .no))
noncomputable def foliolaw04_MarkEscapes (a0 : List (UInt8)) : Option (Bool) :=
 (((Go.Fn.mark_Escape a0)).bind fun r1 =>
   ((Go.Fn.folioref04_Escape a0)).bind fun r2 =>
   bif (decide ((r1 : List (UInt8)) = r2)) then (Go.Fn.foliolaw04_awake).bind fun r3 =>
   some r3
   else some false).bind fun r4 =>
 some r4
theorem foliolaw04_MarkEscapes_eq (a0 : List (UInt8)) : Go.Lf.fnE foliolaw04_MarkEscapesCtx foliolaw04_MarkEscapesCode foliolaw04_MarkEscapesAnn [.val .str] [.bool] [.tmp 2] (a0) = foliolaw04_MarkEscapes a0 := by kernel_rfl
noncomputable def foliolaw04_MarkEscapesEnt : Nat × Go.Lf.Entry := (3, ⟨[.val .str], [.bool], fun z => foliolaw04_MarkEscapes z⟩)
theorem foliolaw04_MarkEscapes_ok : Go.Lf.EntryOk Go.Proofs.Tryd.prog GG 3 foliolaw04_MarkEscapesEnt.2 :=
  Go.Lf.fn_ok (c := foliolaw04_MarkEscapesCtx) (code := foliolaw04_MarkEscapesCode) (an := foliolaw04_MarkEscapesAnn) (slots := [.tmp 2]) (fn := Go.Proofs.Tryd.f3) (by kernel_rfl) ⟨Tys_ok, Go.Lf.FnsOk.look (.con mark_Escape_ok (.con folioref04_Escape_ok (.con foliolaw04_awake_ok .nil)))⟩ (by kernel_rfl) (by kernel_rfl) (by kernel_rfl) (by kernel_rfl) (by kernel_rfl) (Nat.le_of_ble_eq_true rfl) (by simp [Go.Lf.Ty.top]) (by simp [Go.Lf.Ty.top]) fun z r h => (foliolaw04_MarkEscapes_eq z).trans h
end Go.Fn
open Go Go.Lf
set_option maxRecDepth 10000
namespace Go.Fn
@[reducible] def mark_Escape_c (_ : Nat) (a0 : List UInt8) := Go.Fn.mark_Escape a0
theorem mark_Escape_le (n : Nat) (a0 : List UInt8) : Go.Lf.Le (mark_Escape_c n a0) (mark_Escape a0) := Go.Lf.Le.refl
@[reducible] def text_Plain_c (_ : Nat) (a0 : List UInt8) := Go.Fn.text_Plain a0
theorem text_Plain_le (n : Nat) (a0 : List UInt8) : Go.Lf.Le (text_Plain_c n a0) (text_Plain a0) := Go.Lf.Le.refl
@[reducible] def strings_Contains_c (_ : Nat) (a0 : List UInt8) (a1 : List UInt8) := Go.Fn.strings_Contains a0 a1
theorem strings_Contains_le (n : Nat) (a0 : List UInt8) (a1 : List UInt8) : Go.Lf.Le (strings_Contains_c n a0 a1) (strings_Contains a0 a1) := Go.Lf.Le.refl
@[reducible] def strings_IndexByte_c (_ : Nat) (a0 : List UInt8) (a1 : Int) := Go.Fn.strings_IndexByte a0 a1
theorem strings_IndexByte_le (n : Nat) (a0 : List UInt8) (a1 : Int) : Go.Lf.Le (strings_IndexByte_c n a0 a1) (strings_IndexByte a0 a1) := Go.Lf.Le.refl
@[reducible] def strings_Cut_c (_ : Nat) (a0 : List UInt8) (a1 : List UInt8) := Go.Fn.strings_Cut a0 a1
theorem strings_Cut_le (n : Nat) (a0 : List UInt8) (a1 : List UInt8) : Go.Lf.Le (strings_Cut_c n a0 a1) (strings_Cut a0 a1) := Go.Lf.Le.refl
@[reducible] def strings_TrimSuffix_c (_ : Nat) (a0 : List UInt8) (a1 : List UInt8) := Go.Fn.strings_TrimSuffix a0 a1
theorem strings_TrimSuffix_le (n : Nat) (a0 : List UInt8) (a1 : List UInt8) : Go.Lf.Le (strings_TrimSuffix_c n a0 a1) (strings_TrimSuffix a0 a1) := Go.Lf.Le.refl
@[reducible] def strings_HasPrefix_c (_ : Nat) (a0 : List UInt8) (a1 : List UInt8) := Go.Fn.strings_HasPrefix a0 a1
theorem strings_HasPrefix_le (n : Nat) (a0 : List UInt8) (a1 : List UInt8) : Go.Lf.Le (strings_HasPrefix_c n a0 a1) (strings_HasPrefix a0 a1) := Go.Lf.Le.refl
@[reducible] def strings_Trim_c (_ : Nat) (a0 : List UInt8) (a1 : List UInt8) := Go.Fn.strings_Trim a0 a1
theorem strings_Trim_le (n : Nat) (a0 : List UInt8) (a1 : List UInt8) : Go.Lf.Le (strings_Trim_c n a0 a1) (strings_Trim a0 a1) := Go.Lf.Le.refl
@[reducible] def strings_ReplaceAll_c (_ : Nat) (a0 : List UInt8) (a1 : List UInt8) (a2 : List UInt8) := Go.Fn.strings_ReplaceAll a0 a1 a2
theorem strings_ReplaceAll_le (n : Nat) (a0 : List UInt8) (a1 : List UInt8) (a2 : List UInt8) : Go.Lf.Le (strings_ReplaceAll_c n a0 a1 a2) (strings_ReplaceAll a0 a1 a2) := Go.Lf.Le.refl
@[reducible] def utf8_DecodeRuneInString_c (_ : Nat) (a0 : List UInt8) := Go.Fn.utf8_DecodeRuneInString a0
theorem utf8_DecodeRuneInString_le (n : Nat) (a0 : List UInt8) : Go.Lf.Le (utf8_DecodeRuneInString_c n a0) (utf8_DecodeRuneInString a0) := Go.Lf.Le.refl
noncomputable def folioref04_Escape_c (n : Nat) (a0 : List (UInt8)) : Option (List (UInt8)) :=
 (Go.Lf.loopF n (σ := (Int) × (List (UInt8))) (κ := List (UInt8)) (fun z1 =>
     bif (decide (z1.1 < (((List.length a0) : Nat) : Int))) then ((((Go.Lf.idx a0 z1.1)).bind fun r2 =>
         bif (!(decide (((((UInt8.toNat r2) : Nat) : Int) : Int) = (92 : Int)))) then ((Go.Lf.idx a0 z1.1)).bind fun r3 =>
         bif (!(decide (((((UInt8.toNat r3) : Nat) : Int) : Int) = (123 : Int)))) then ((Go.Lf.idx a0 z1.1)).bind fun r4 =>
         bif (!(decide (((((UInt8.toNat r4) : Nat) : Int) : Int) = (125 : Int)))) then ((Go.Lf.idx a0 z1.1)).bind fun r5 =>
         bif (!(decide (((((UInt8.toNat r5) : Nat) : Int) : Int) = (124 : Int)))) then bif (decide ((z1.1 : Int) = (0 : Int))) then ((Go.Lf.idx a0 z1.1)).bind fun r6 =>
         bif (!(decide (((((UInt8.toNat r6) : Nat) : Int) : Int) = (46 : Int)))) then ((Go.Lf.idx a0 z1.1)).bind fun r7 =>
         some (decide (((((UInt8.toNat r7) : Nat) : Int) : Int) = (35 : Int)))
         else some true
         else some false
         else some true
         else some true
         else some true
         else some true).bind fun r8 =>
       bif r8 then ((Go.Lf.cat z1.2 ((92 : UInt8) :: ([] : List (UInt8))))).bind fun r9 =>
       some r9
       else some z1.2).bind fun r10 =>
     ((Go.Lf.sub a0 z1.1 (Go.IntKind.wrap .i64 (z1.1 + (1 : Int))))).bind fun r11 =>
     ((Go.Lf.cat r10 r11)).bind fun r12 =>
     some (.inl ((Go.IntKind.wrap .i64 (z1.1 + (1 : Int))), r12))
     else some (.inr z1.2)) ((0 : Int), ([] : List (UInt8))) : Option (List (UInt8))).bind fun r13 =>
 some r13
theorem folioref04_Escape_le (n : Nat) (a0 : List (UInt8)) : Go.Lf.Le (folioref04_Escape_c n a0) (folioref04_Escape a0) := by
  unfold folioref04_Escape_c folioref04_Escape
  repeat' first
    | with_reducible refine Go.Lf.Le.bind ?_ (fun _ => ?_)
    | with_reducible refine Go.Lf.Le.cond ?_ ?_
    | with_reducible refine Go.Lf.Le.loop (fun _ => ?_)
    | with_reducible refine Go.Lf.Le.onSum (fun _ => ?_) (fun _ => ?_)
    | with_reducible exact Go.Lf.Le.refl
noncomputable def fault_New_c (n : Nat) (a0 : Int) (a1 : Int) (a2 : Int) (a3 : Int) (a4 : List (UInt8)) : Option (Option ((Int) × (((Int) × ((Int) × ((Int) × ((Int) × ((List (UInt8)) × ((List ((List (UInt8)) × ((Int) × (Unit)))) × (Unit))))))) × (Unit)))) :=
 bif (decide ((a0 : Int) = (0 : Int))) then some (none : Option ((Int) × (((Int) × ((Int) × ((Int) × ((Int) × ((List (UInt8)) × ((List ((List (UInt8)) × ((Int) × (Unit)))) × (Unit))))))) × (Unit))))
 else some (some ((1 : Int), ((a0, (a1, (a2, (a3, (a4, (([] : List ((List (UInt8)) × ((Int) × (Unit)))), ())))))), ())))
theorem fault_New_le (n : Nat) (a0 : Int) (a1 : Int) (a2 : Int) (a3 : Int) (a4 : List (UInt8)) : Go.Lf.Le (fault_New_c n a0 a1 a2 a3 a4) (fault_New a0 a1 a2 a3 a4) := by
  unfold fault_New_c fault_New
  repeat' first
    | with_reducible refine Go.Lf.Le.bind ?_ (fun _ => ?_)
    | with_reducible refine Go.Lf.Le.cond ?_ ?_
    | with_reducible refine Go.Lf.Le.loop (fun _ => ?_)
    | with_reducible refine Go.Lf.Le.onSum (fun _ => ?_) (fun _ => ?_)
    | with_reducible exact Go.Lf.Le.refl
noncomputable def mark_wrong_c (n : Nat) (a0 : Int) (a1 : Int) (a2 : Int) (a3 : List (UInt8)) : Option (Option ((Int) × (((Int) × ((Int) × ((Int) × ((Int) × ((List (UInt8)) × ((List ((List (UInt8)) × ((Int) × (Unit)))) × (Unit))))))) × (Unit)))) :=
 ((Go.Fn.fault_New_c n a0 (0 : Int) a1 a2 a3)).bind fun r1 =>
 some r1
theorem mark_wrong_le (n : Nat) (a0 : Int) (a1 : Int) (a2 : Int) (a3 : List (UInt8)) : Go.Lf.Le (mark_wrong_c n a0 a1 a2 a3) (mark_wrong a0 a1 a2 a3) := by
  unfold mark_wrong_c mark_wrong
  repeat' first
    | with_reducible exact Go.Fn.fault_New_le n _ _ _ _ _
    | with_reducible refine Go.Lf.Le.bind ?_ (fun _ => ?_)
    | with_reducible refine Go.Lf.Le.cond ?_ ?_
    | with_reducible refine Go.Lf.Le.loop (fun _ => ?_)
    | with_reducible refine Go.Lf.Le.onSum (fun _ => ?_) (fun _ => ?_)
    | with_reducible exact Go.Lf.Le.refl
noncomputable def mark_lexer__check_c (n : Nat) (a0 : (List ((Int) × ((List (UInt8)) × ((List (UInt8)) × ((Int) × ((Int) × (Unit))))))) × ((List ((List (UInt8)) × ((Int) × ((Int) × (Unit))))) × ((Int) × (((Int) × ((List (UInt8)) × ((List (UInt8)) × ((Int) × ((Int) × (Unit)))))) × (((Int) × ((Int) × (Unit))) × ((Int) × ((Int) × (Unit)))))))) (a1 : List (UInt8)) : Option ((Option ((Int) × (((Int) × ((Int) × ((Int) × ((Int) × ((List (UInt8)) × ((List ((List (UInt8)) × ((Int) × (Unit)))) × (Unit))))))) × (Unit)))) × ((List ((Int) × ((List (UInt8)) × ((List (UInt8)) × ((Int) × ((Int) × (Unit))))))) × ((List ((List (UInt8)) × ((Int) × ((Int) × (Unit))))) × ((Int) × (((Int) × ((List (UInt8)) × ((List (UInt8)) × ((Int) × ((Int) × (Unit)))))) × (((Int) × ((Int) × (Unit))) × ((Int) × ((Int) × (Unit))))))))) :=
 bif (decide ((4096 : Int) < (((List.length a1) : Nat) : Int))) then ((Go.Fn.mark_wrong_c n (2 : Int) a0.2.2.2.2.2.2.1 (1 : Int) ([] : List (UInt8)))).bind fun r1 =>
 some (r1, a0)
 else ((Go.Fn.strings_ReplaceAll_c n a1 ((9 : UInt8) :: ([] : List (UInt8))) ((32 : UInt8) :: ([] : List (UInt8))))).bind fun r2 =>
 ((Go.Fn.text_Plain_c n r2)).bind fun r3 =>
 bif (!r3.2) then ((Go.Fn.mark_wrong_c n (40 : Int) a0.2.2.2.2.2.2.1 (Go.IntKind.wrap .i64 (r3.1 + (1 : Int))) ([] : List (UInt8)))).bind fun r4 =>
 some (r4, a0)
 else some ((none : Option ((Int) × (((Int) × ((Int) × ((Int) × ((Int) × ((List (UInt8)) × ((List ((List (UInt8)) × ((Int) × (Unit)))) × (Unit))))))) × (Unit)))), a0)
theorem mark_lexer__check_le (n : Nat) (a0 : (List ((Int) × ((List (UInt8)) × ((List (UInt8)) × ((Int) × ((Int) × (Unit))))))) × ((List ((List (UInt8)) × ((Int) × ((Int) × (Unit))))) × ((Int) × (((Int) × ((List (UInt8)) × ((List (UInt8)) × ((Int) × ((Int) × (Unit)))))) × (((Int) × ((Int) × (Unit))) × ((Int) × ((Int) × (Unit)))))))) (a1 : List (UInt8)) : Go.Lf.Le (mark_lexer__check_c n a0 a1) (mark_lexer__check a0 a1) := by
  unfold mark_lexer__check_c mark_lexer__check
  repeat' first
    | with_reducible exact Go.Fn.mark_wrong_le n _ _ _ _
    | with_reducible exact Go.Fn.strings_ReplaceAll_le n _ _ _
    | with_reducible exact Go.Fn.text_Plain_le n _
    | with_reducible refine Go.Lf.Le.bind ?_ (fun _ => ?_)
    | with_reducible refine Go.Lf.Le.cond ?_ ?_
    | with_reducible refine Go.Lf.Le.loop (fun _ => ?_)
    | with_reducible refine Go.Lf.Le.onSum (fun _ => ?_) (fun _ => ?_)
    | with_reducible exact Go.Lf.Le.refl
noncomputable def mark_lexer__flush_c (n : Nat) (a0 : (List ((Int) × ((List (UInt8)) × ((List (UInt8)) × ((Int) × ((Int) × (Unit))))))) × ((List ((List (UInt8)) × ((Int) × ((Int) × (Unit))))) × ((Int) × (((Int) × ((List (UInt8)) × ((List (UInt8)) × ((Int) × ((Int) × (Unit)))))) × (((Int) × ((Int) × (Unit))) × ((Int) × ((Int) × (Unit)))))))) : Option ((List ((Int) × ((List (UInt8)) × ((List (UInt8)) × ((Int) × ((Int) × (Unit))))))) × ((List ((List (UInt8)) × ((Int) × ((Int) × (Unit))))) × ((Int) × (((Int) × ((List (UInt8)) × ((List (UInt8)) × ((Int) × ((Int) × (Unit)))))) × (((Int) × ((Int) × (Unit))) × ((Int) × ((Int) × (Unit)))))))) :=
 (bif (decide ((a0.2.2.2.1.2.2.1 : List (UInt8)) ≠ ([] : List (UInt8)))) then ((Go.Lf.app (56 : Nat) a0.1 (a0.2.2.2.1 :: ([] : List ((Int) × ((List (UInt8)) × ((List (UInt8)) × ((Int) × ((Int) × (Unit)))))))))).bind fun r1 =>
   some (r1, a0.2)
   else some a0).bind fun r2 =>
 some (r2.1, (r2.2.1, (r2.2.2.1, (((0 : Int), (([] : List (UInt8)), (([] : List (UInt8)), ((0 : Int), ((0 : Int), ()))))), r2.2.2.2.2))))
theorem mark_lexer__flush_le (n : Nat) (a0 : (List ((Int) × ((List (UInt8)) × ((List (UInt8)) × ((Int) × ((Int) × (Unit))))))) × ((List ((List (UInt8)) × ((Int) × ((Int) × (Unit))))) × ((Int) × (((Int) × ((List (UInt8)) × ((List (UInt8)) × ((Int) × ((Int) × (Unit)))))) × (((Int) × ((Int) × (Unit))) × ((Int) × ((Int) × (Unit)))))))) : Go.Lf.Le (mark_lexer__flush_c n a0) (mark_lexer__flush a0) := by
  unfold mark_lexer__flush_c mark_lexer__flush
  repeat' first
    | with_reducible refine Go.Lf.Le.bind ?_ (fun _ => ?_)
    | with_reducible refine Go.Lf.Le.cond ?_ ?_
    | with_reducible refine Go.Lf.Le.loop (fun _ => ?_)
    | with_reducible refine Go.Lf.Le.onSum (fun _ => ?_) (fun _ => ?_)
    | with_reducible exact Go.Lf.Le.refl
noncomputable def mark_lexer__end_c (n : Nat) (a0 : (List ((Int) × ((List (UInt8)) × ((List (UInt8)) × ((Int) × ((Int) × (Unit))))))) × ((List ((List (UInt8)) × ((Int) × ((Int) × (Unit))))) × ((Int) × (((Int) × ((List (UInt8)) × ((List (UInt8)) × ((Int) × ((Int) × (Unit)))))) × (((Int) × ((Int) × (Unit))) × ((Int) × ((Int) × (Unit)))))))) : Option ((Option ((Int) × (((Int) × ((Int) × ((Int) × ((Int) × ((List (UInt8)) × ((List ((List (UInt8)) × ((Int) × (Unit)))) × (Unit))))))) × (Unit)))) × ((List ((Int) × ((List (UInt8)) × ((List (UInt8)) × ((Int) × ((Int) × (Unit))))))) × ((List ((List (UInt8)) × ((Int) × ((Int) × (Unit))))) × ((Int) × (((Int) × ((List (UInt8)) × ((List (UInt8)) × ((Int) × ((Int) × (Unit)))))) × (((Int) × ((Int) × (Unit))) × ((Int) × ((Int) × (Unit))))))))) :=
 bif (decide ((a0.2.2.1 : Int) = (0 : Int))) then some ((none : Option ((Int) × (((Int) × ((Int) × ((Int) × ((Int) × ((List (UInt8)) × ((List ((List (UInt8)) × ((Int) × (Unit)))) × (Unit))))))) × (Unit)))), a0)
 else bif (decide ((0 : Int) < (((List.length a0.2.1) : Nat) : Int))) then ((Go.Lf.chk (List.length a0.2.1) (Go.IntKind.wrap .i64 ((((List.length a0.2.1) : Nat) : Int) - (1 : Int))))).bind fun r1 =>
 ((Go.Lf.nth a0.2.1 r1)).bind fun r2 =>
 ((Go.Fn.mark_wrong_c n (45 : Int) r2.2.1 r2.2.2.1 r2.1)).bind fun r3 =>
 some (r3, a0)
 else ((Go.Fn.mark_lexer__flush_c n a0)).bind fun r4 =>
 some ((none : Option ((Int) × (((Int) × ((Int) × ((Int) × ((Int) × ((List (UInt8)) × ((List ((List (UInt8)) × ((Int) × (Unit)))) × (Unit))))))) × (Unit)))), (r4.1, (r4.2.1, ((0 : Int), (r4.2.2.2.1, (((0 : Int), ((0 : Int), ())), r4.2.2.2.2.2))))))
theorem mark_lexer__end_le (n : Nat) (a0 : (List ((Int) × ((List (UInt8)) × ((List (UInt8)) × ((Int) × ((Int) × (Unit))))))) × ((List ((List (UInt8)) × ((Int) × ((Int) × (Unit))))) × ((Int) × (((Int) × ((List (UInt8)) × ((List (UInt8)) × ((Int) × ((Int) × (Unit)))))) × (((Int) × ((Int) × (Unit))) × ((Int) × ((Int) × (Unit)))))))) : Go.Lf.Le (mark_lexer__end_c n a0) (mark_lexer__end a0) := by
  unfold mark_lexer__end_c mark_lexer__end
  repeat' first
    | with_reducible exact Go.Fn.mark_lexer__flush_le n _
    | with_reducible exact Go.Fn.mark_wrong_le n _ _ _ _
    | with_reducible refine Go.Lf.Le.bind ?_ (fun _ => ?_)
    | with_reducible refine Go.Lf.Le.cond ?_ ?_
    | with_reducible refine Go.Lf.Le.loop (fun _ => ?_)
    | with_reducible refine Go.Lf.Le.onSum (fun _ => ?_) (fun _ => ?_)
    | with_reducible exact Go.Lf.Le.refl
noncomputable def mark_name_c (n : Nat) (a0 : List (UInt8)) : Option (Int) :=
 (Go.Lf.loopF n (σ := Int) (κ := Int) (fun z1 =>
     (bif (decide (z1 < (((List.length a0) : Nat) : Int))) then ((Go.Lf.idx a0 z1)).bind fun r2 =>
       bif (decide ((97 : Int) ≤ (((UInt8.toNat r2) : Nat) : Int))) then ((Go.Lf.idx a0 z1)).bind fun r3 =>
       some (decide ((((UInt8.toNat r3) : Nat) : Int) ≤ (122 : Int)))
       else some false
       else some false).bind fun r4 =>
     bif r4 then some (.inl (Go.IntKind.wrap .i64 (z1 + (1 : Int))))
     else some (.inr z1)) (0 : Int) : Option (Int)).bind fun r5 =>
 some r5
theorem mark_name_le (n : Nat) (a0 : List (UInt8)) : Go.Lf.Le (mark_name_c n a0) (mark_name a0) := by
  unfold mark_name_c mark_name
  repeat' first
    | with_reducible refine Go.Lf.Le.bind ?_ (fun _ => ?_)
    | with_reducible refine Go.Lf.Le.cond ?_ ?_
    | with_reducible refine Go.Lf.Le.loop (fun _ => ?_)
    | with_reducible refine Go.Lf.Le.onSum (fun _ => ?_) (fun _ => ?_)
    | with_reducible exact Go.Lf.Le.refl
noncomputable def mark_blanked_c (n : Nat) (a0 : Int) : Option (Bool) :=
 (bif (decide ((a0 : Int) = (9 : Int))) then some (.inl ())
   else bif (decide ((a0 : Int) = (32 : Int))) then some (.inl ())
   else some (.inr ()) : Option ((Unit) ⊕ (Unit))).bind fun r1 =>
 Go.Lf.onSum r1 (fun a2 =>
 some true) (fun b3 =>
 some false)
theorem mark_blanked_le (n : Nat) (a0 : Int) : Go.Lf.Le (mark_blanked_c n a0) (mark_blanked a0) := by
  unfold mark_blanked_c mark_blanked
  repeat' first
    | with_reducible refine Go.Lf.Le.bind ?_ (fun _ => ?_)
    | with_reducible refine Go.Lf.Le.cond ?_ ?_
    | with_reducible refine Go.Lf.Le.loop (fun _ => ?_)
    | with_reducible refine Go.Lf.Le.onSum (fun _ => ?_) (fun _ => ?_)
    | with_reducible exact Go.Lf.Le.refl
noncomputable def mark_lexer__directive_c (n : Nat) (a0 : (List ((Int) × ((List (UInt8)) × ((List (UInt8)) × ((Int) × ((Int) × (Unit))))))) × ((List ((List (UInt8)) × ((Int) × ((Int) × (Unit))))) × ((Int) × (((Int) × ((List (UInt8)) × ((List (UInt8)) × ((Int) × ((Int) × (Unit)))))) × (((Int) × ((Int) × (Unit))) × ((Int) × ((Int) × (Unit)))))))) (a1 : List (UInt8)) : Option ((Option ((Int) × (((Int) × ((Int) × ((Int) × ((Int) × ((List (UInt8)) × ((List ((List (UInt8)) × ((Int) × (Unit)))) × (Unit))))))) × (Unit)))) × ((List ((Int) × ((List (UInt8)) × ((List (UInt8)) × ((Int) × ((Int) × (Unit))))))) × ((List ((List (UInt8)) × ((Int) × ((Int) × (Unit))))) × ((Int) × (((Int) × ((List (UInt8)) × ((List (UInt8)) × ((Int) × ((Int) × (Unit)))))) × (((Int) × ((Int) × (Unit))) × ((Int) × ((Int) × (Unit))))))))) :=
 ((Go.Lf.sub a1 (1 : Int) (((List.length a1) : Nat) : Int))).bind fun r1 =>
 ((Go.Fn.mark_name_c n r1)).bind fun r2 =>
 ((Go.Lf.sub a1 (Go.IntKind.wrap .i64 ((1 : Int) + r2)) (((List.length a1) : Nat) : Int))).bind fun r3 =>
 (bif (!(decide ((r2 : Int) = (0 : Int)))) then bif (!(decide ((12 : Int) < r2))) then bif (decide ((r3 : List (UInt8)) ≠ ([] : List (UInt8)))) then ((Go.Lf.idx r3 (0 : Int))).bind fun r4 =>
   ((Go.Fn.mark_blanked_c n (((UInt8.toNat r4) : Nat) : Int))).bind fun r5 =>
   some ((!r5), a0)
   else some (false, a0)
   else some (true, a0)
   else some (true, a0)).bind fun r6 =>
 bif r6.1 then ((Go.Lf.sub a1 (1 : Int) (Go.IntKind.wrap .i64 ((1 : Int) + (Min.min r2 (12 : Int)))))).bind fun r7 =>
 ((Go.Fn.mark_wrong_c n (41 : Int) r6.2.2.2.2.2.2.2.1 (2 : Int) r7)).bind fun r8 =>
 some (r8, r6.2)
 else ((Go.Fn.mark_lexer__end_c n r6.2)).bind fun r9 =>
 bif (Option.isSome r9.1) then some (r9.1, r9.2)
 else ((Go.Lf.sub a1 (1 : Int) (Go.IntKind.wrap .i64 ((1 : Int) + r2)))).bind fun r10 =>
 ((Go.Fn.strings_Trim_c n r3 ((32 : UInt8) :: ((9 : UInt8) :: ([] : List (UInt8)))))).bind fun r11 =>
 ((Go.Lf.app (56 : Nat) r9.2.1 (((1 : Int), (r10, (r11, (r9.2.2.2.2.2.2.2.1, ((1 : Int), ()))))) :: ([] : List ((Int) × ((List (UInt8)) × ((List (UInt8)) × ((Int) × ((Int) × (Unit)))))))))).bind fun r12 =>
 some ((none : Option ((Int) × (((Int) × ((Int) × ((Int) × ((Int) × ((List (UInt8)) × ((List ((List (UInt8)) × ((Int) × (Unit)))) × (Unit))))))) × (Unit)))), (r12, r9.2.2))
theorem mark_lexer__directive_le (n : Nat) (a0 : (List ((Int) × ((List (UInt8)) × ((List (UInt8)) × ((Int) × ((Int) × (Unit))))))) × ((List ((List (UInt8)) × ((Int) × ((Int) × (Unit))))) × ((Int) × (((Int) × ((List (UInt8)) × ((List (UInt8)) × ((Int) × ((Int) × (Unit)))))) × (((Int) × ((Int) × (Unit))) × ((Int) × ((Int) × (Unit)))))))) (a1 : List (UInt8)) : Go.Lf.Le (mark_lexer__directive_c n a0 a1) (mark_lexer__directive a0 a1) := by
  unfold mark_lexer__directive_c mark_lexer__directive
  repeat' first
    | with_reducible exact Go.Fn.mark_blanked_le n _
    | with_reducible exact Go.Fn.mark_lexer__end_le n _
    | with_reducible exact Go.Fn.mark_name_le n _
    | with_reducible exact Go.Fn.mark_wrong_le n _ _ _ _
    | with_reducible exact Go.Fn.strings_Trim_le n _ _
    | with_reducible refine Go.Lf.Le.bind ?_ (fun _ => ?_)
    | with_reducible refine Go.Lf.Le.cond ?_ ?_
    | with_reducible refine Go.Lf.Le.loop (fun _ => ?_)
    | with_reducible refine Go.Lf.Le.onSum (fun _ => ?_) (fun _ => ?_)
    | with_reducible exact Go.Lf.Le.refl
noncomputable def mark_lexer__wait_c (n : Nat) (a0 : (List ((Int) × ((List (UInt8)) × ((List (UInt8)) × ((Int) × ((Int) × (Unit))))))) × ((List ((List (UInt8)) × ((Int) × ((Int) × (Unit))))) × ((Int) × (((Int) × ((List (UInt8)) × ((List (UInt8)) × ((Int) × ((Int) × (Unit)))))) × (((Int) × ((Int) × (Unit))) × ((Int) × ((Int) × (Unit)))))))) (a1 : Int) : Option ((List ((Int) × ((List (UInt8)) × ((List (UInt8)) × ((Int) × ((Int) × (Unit))))))) × ((List ((List (UInt8)) × ((Int) × ((Int) × (Unit))))) × ((Int) × (((Int) × ((List (UInt8)) × ((List (UInt8)) × ((Int) × ((Int) × (Unit)))))) × (((Int) × ((Int) × (Unit))) × ((Int) × ((Int) × (Unit)))))))) :=
 (bif (decide ((a0.2.2.2.2.2.1 : Int) = (0 : Int))) then some ((decide (((a0.2.2.2.2.1.1 :: (a0.2.2.2.2.1.2.1 :: ([] : List (Int)))) : List (Int)) = ((0 : Int) :: ((0 : Int) :: ([] : List (Int)))))), a0)
   else some (false, a0)).bind fun r1 =>
 bif r1.1 then some (r1.2.1, (r1.2.2.1, (r1.2.2.2.1, (r1.2.2.2.2.1, ((r1.2.2.2.2.2.2.2.1, (a1, ())), r1.2.2.2.2.2.2)))))
 else some r1.2
theorem mark_lexer__wait_le (n : Nat) (a0 : (List ((Int) × ((List (UInt8)) × ((List (UInt8)) × ((Int) × ((Int) × (Unit))))))) × ((List ((List (UInt8)) × ((Int) × ((Int) × (Unit))))) × ((Int) × (((Int) × ((List (UInt8)) × ((List (UInt8)) × ((Int) × ((Int) × (Unit)))))) × (((Int) × ((Int) × (Unit))) × ((Int) × ((Int) × (Unit)))))))) (a1 : Int) : Go.Lf.Le (mark_lexer__wait_c n a0 a1) (mark_lexer__wait a0 a1) := by
  unfold mark_lexer__wait_c mark_lexer__wait
  repeat' first
    | with_reducible refine Go.Lf.Le.bind ?_ (fun _ => ?_)
    | with_reducible refine Go.Lf.Le.cond ?_ ?_
    | with_reducible refine Go.Lf.Le.loop (fun _ => ?_)
    | with_reducible refine Go.Lf.Le.onSum (fun _ => ?_) (fun _ => ?_)
    | with_reducible exact Go.Lf.Le.refl
noncomputable def mark_lexer__put_c (n : Nat) (a0 : (List ((Int) × ((List (UInt8)) × ((List (UInt8)) × ((Int) × ((Int) × (Unit))))))) × ((List ((List (UInt8)) × ((Int) × ((Int) × (Unit))))) × ((Int) × (((Int) × ((List (UInt8)) × ((List (UInt8)) × ((Int) × ((Int) × (Unit)))))) × (((Int) × ((Int) × (Unit))) × ((Int) × ((Int) × (Unit)))))))) (a1 : List (UInt8)) (a2 : Int) (a3 : Int) : Option ((List ((Int) × ((List (UInt8)) × ((List (UInt8)) × ((Int) × ((Int) × (Unit))))))) × ((List ((List (UInt8)) × ((Int) × ((Int) × (Unit))))) × ((Int) × (((Int) × ((List (UInt8)) × ((List (UInt8)) × ((Int) × ((Int) × (Unit)))))) × (((Int) × ((Int) × (Unit))) × ((Int) × ((Int) × (Unit)))))))) :=
 (bif (decide ((a0.2.2.2.1.2.2.1 : List (UInt8)) = ([] : List (UInt8)))) then some (a0.1, (a0.2.1, (a0.2.2.1, (((6 : Int), (([] : List (UInt8)), (([] : List (UInt8)), (a2, (a3, ()))))), a0.2.2.2.2))))
   else some a0).bind fun r1 =>
 ((Go.Lf.cat r1.2.2.2.1.2.2.1 a1)).bind fun r2 =>
 some (r1.1, (r1.2.1, (r1.2.2.1, ((r1.2.2.2.1.1, (r1.2.2.2.1.2.1, (r2, r1.2.2.2.1.2.2.2))), r1.2.2.2.2))))
theorem mark_lexer__put_le (n : Nat) (a0 : (List ((Int) × ((List (UInt8)) × ((List (UInt8)) × ((Int) × ((Int) × (Unit))))))) × ((List ((List (UInt8)) × ((Int) × ((Int) × (Unit))))) × ((Int) × (((Int) × ((List (UInt8)) × ((List (UInt8)) × ((Int) × ((Int) × (Unit)))))) × (((Int) × ((Int) × (Unit))) × ((Int) × ((Int) × (Unit)))))))) (a1 : List (UInt8)) (a2 : Int) (a3 : Int) : Go.Lf.Le (mark_lexer__put_c n a0 a1 a2 a3) (mark_lexer__put a0 a1 a2 a3) := by
  unfold mark_lexer__put_c mark_lexer__put
  repeat' first
    | with_reducible refine Go.Lf.Le.bind ?_ (fun _ => ?_)
    | with_reducible refine Go.Lf.Le.cond ?_ ?_
    | with_reducible refine Go.Lf.Le.loop (fun _ => ?_)
    | with_reducible refine Go.Lf.Le.onSum (fun _ => ?_) (fun _ => ?_)
    | with_reducible exact Go.Lf.Le.refl
noncomputable def mark_lexer__settle_c (n : Nat) (a0 : (List ((Int) × ((List (UInt8)) × ((List (UInt8)) × ((Int) × ((Int) × (Unit))))))) × ((List ((List (UInt8)) × ((Int) × ((Int) × (Unit))))) × ((Int) × (((Int) × ((List (UInt8)) × ((List (UInt8)) × ((Int) × ((Int) × (Unit)))))) × (((Int) × ((Int) × (Unit))) × ((Int) × ((Int) × (Unit)))))))) : Option ((List ((Int) × ((List (UInt8)) × ((List (UInt8)) × ((Int) × ((Int) × (Unit))))))) × ((List ((List (UInt8)) × ((Int) × ((Int) × (Unit))))) × ((Int) × (((Int) × ((List (UInt8)) × ((List (UInt8)) × ((Int) × ((Int) × (Unit)))))) × (((Int) × ((Int) × (Unit))) × ((Int) × ((Int) × (Unit)))))))) :=
 (bif (!(decide (((a0.2.2.2.2.1.1 :: (a0.2.2.2.2.1.2.1 :: ([] : List (Int)))) : List (Int)) = ((0 : Int) :: ((0 : Int) :: ([] : List (Int))))))) then ((Go.Fn.mark_lexer__put_c n a0 ((32 : UInt8) :: ([] : List (UInt8))) a0.2.2.2.2.1.1 a0.2.2.2.2.1.2.1)).bind fun r1 =>
   some (r1.1, (r1.2.1, (r1.2.2.1, (r1.2.2.2.1, (((0 : Int), ((0 : Int), ())), r1.2.2.2.2.2)))))
   else some a0).bind fun r2 =>
 some (r2.1, (r2.2.1, (r2.2.2.1, (r2.2.2.2.1, (r2.2.2.2.2.1, ((0 : Int), r2.2.2.2.2.2.2))))))
theorem mark_lexer__settle_le (n : Nat) (a0 : (List ((Int) × ((List (UInt8)) × ((List (UInt8)) × ((Int) × ((Int) × (Unit))))))) × ((List ((List (UInt8)) × ((Int) × ((Int) × (Unit))))) × ((Int) × (((Int) × ((List (UInt8)) × ((List (UInt8)) × ((Int) × ((Int) × (Unit)))))) × (((Int) × ((Int) × (Unit))) × ((Int) × ((Int) × (Unit)))))))) : Go.Lf.Le (mark_lexer__settle_c n a0) (mark_lexer__settle a0) := by
  unfold mark_lexer__settle_c mark_lexer__settle
  repeat' first
    | with_reducible exact Go.Fn.mark_lexer__put_le n _ _ _ _
    | with_reducible refine Go.Lf.Le.bind ?_ (fun _ => ?_)
    | with_reducible refine Go.Lf.Le.cond ?_ ?_
    | with_reducible refine Go.Lf.Le.loop (fun _ => ?_)
    | with_reducible refine Go.Lf.Le.onSum (fun _ => ?_) (fun _ => ?_)
    | with_reducible exact Go.Lf.Le.refl
noncomputable def mark_lexer__escape_c (n : Nat) (a0 : (List ((Int) × ((List (UInt8)) × ((List (UInt8)) × ((Int) × ((Int) × (Unit))))))) × ((List ((List (UInt8)) × ((Int) × ((Int) × (Unit))))) × ((Int) × (((Int) × ((List (UInt8)) × ((List (UInt8)) × ((Int) × ((Int) × (Unit)))))) × (((Int) × ((Int) × (Unit))) × ((Int) × ((Int) × (Unit)))))))) (a1 : List (UInt8)) (a2 : Int) : Option ((Int) × ((Option ((Int) × (((Int) × ((Int) × ((Int) × ((Int) × ((List (UInt8)) × ((List ((List (UInt8)) × ((Int) × (Unit)))) × (Unit))))))) × (Unit)))) × ((List ((Int) × ((List (UInt8)) × ((List (UInt8)) × ((Int) × ((Int) × (Unit))))))) × ((List ((List (UInt8)) × ((Int) × ((Int) × (Unit))))) × ((Int) × (((Int) × ((List (UInt8)) × ((List (UInt8)) × ((Int) × ((Int) × (Unit)))))) × (((Int) × ((Int) × (Unit))) × ((Int) × ((Int) × (Unit)))))))))) :=
 (bif (decide ((Go.IntKind.wrap .i64 (a2 + (1 : Int))) < (((List.length a1) : Nat) : Int))) then ((Go.Lf.idx a1 (Go.IntKind.wrap .i64 (a2 + (1 : Int))))).bind fun r1 =>
   ((Go.Fn.strings_IndexByte_c n ((92 : UInt8) :: ((123 : UInt8) :: ((125 : UInt8) :: ((124 : UInt8) :: ((46 : UInt8) :: ((35 : UInt8) :: ([] : List (UInt8)))))))) (((UInt8.toNat r1) : Nat) : Int))).bind fun r2 =>
   some ((decide ((0 : Int) ≤ r2)), a0)
   else some (false, a0)).bind fun r3 =>
 bif r3.1 then ((Go.Fn.mark_lexer__settle_c n r3.2)).bind fun r4 =>
 ((Go.Lf.sub a1 (Go.IntKind.wrap .i64 (a2 + (1 : Int))) (Go.IntKind.wrap .i64 (a2 + (2 : Int))))).bind fun r5 =>
 ((Go.Fn.mark_lexer__put_c n r4 r5 r4.2.2.2.2.2.2.1 (Go.IntKind.wrap .i64 (a2 + (1 : Int))))).bind fun r6 =>
 some ((2 : Int), ((none : Option ((Int) × (((Int) × ((Int) × ((Int) × ((Int) × ((List (UInt8)) × ((List ((List (UInt8)) × ((Int) × (Unit)))) × (Unit))))))) × (Unit)))), r6))
 else (bif (decide ((Go.IntKind.wrap .i64 (a2 + (1 : Int))) < (((List.length a1) : Nat) : Int))) then ((Go.Lf.sub a1 (Go.IntKind.wrap .i64 (a2 + (1 : Int))) (((List.length a1) : Nat) : Int))).bind fun r7 =>
   ((Go.Fn.utf8_DecodeRuneInString_c n r7)).bind fun r8 =>
   ((Go.Lf.sub a1 (Go.IntKind.wrap .i64 (a2 + (1 : Int))) (Go.IntKind.wrap .i64 ((Go.IntKind.wrap .i64 (a2 + (1 : Int))) + r8.2)))).bind fun r9 =>
   some (r9, r3.2)
   else some (([] : List (UInt8)), r3.2)).bind fun r10 =>
 ((Go.Fn.mark_wrong_c n (42 : Int) r10.2.2.2.2.2.2.2.1 (Go.IntKind.wrap .i64 (a2 + (1 : Int))) r10.1)).bind fun r11 =>
 some ((0 : Int), (r11, r10.2))
theorem mark_lexer__escape_le (n : Nat) (a0 : (List ((Int) × ((List (UInt8)) × ((List (UInt8)) × ((Int) × ((Int) × (Unit))))))) × ((List ((List (UInt8)) × ((Int) × ((Int) × (Unit))))) × ((Int) × (((Int) × ((List (UInt8)) × ((List (UInt8)) × ((Int) × ((Int) × (Unit)))))) × (((Int) × ((Int) × (Unit))) × ((Int) × ((Int) × (Unit)))))))) (a1 : List (UInt8)) (a2 : Int) : Go.Lf.Le (mark_lexer__escape_c n a0 a1 a2) (mark_lexer__escape a0 a1 a2) := by
  unfold mark_lexer__escape_c mark_lexer__escape
  repeat' first
    | with_reducible exact Go.Fn.mark_lexer__put_le n _ _ _ _
    | with_reducible exact Go.Fn.mark_lexer__settle_le n _
    | with_reducible exact Go.Fn.mark_wrong_le n _ _ _ _
    | with_reducible exact Go.Fn.strings_IndexByte_le n _ _
    | with_reducible exact Go.Fn.utf8_DecodeRuneInString_le n _
    | with_reducible refine Go.Lf.Le.bind ?_ (fun _ => ?_)
    | with_reducible refine Go.Lf.Le.cond ?_ ?_
    | with_reducible refine Go.Lf.Le.loop (fun _ => ?_)
    | with_reducible refine Go.Lf.Le.onSum (fun _ => ?_) (fun _ => ?_)
    | with_reducible exact Go.Lf.Le.refl
noncomputable def mark_lexer__token_c (n : Nat) (a0 : (List ((Int) × ((List (UInt8)) × ((List (UInt8)) × ((Int) × ((Int) × (Unit))))))) × ((List ((List (UInt8)) × ((Int) × ((Int) × (Unit))))) × ((Int) × (((Int) × ((List (UInt8)) × ((List (UInt8)) × ((Int) × ((Int) × (Unit)))))) × (((Int) × ((Int) × (Unit))) × ((Int) × ((Int) × (Unit)))))))) (a1 : Int) (a2 : List (UInt8)) (a3 : Int) : Option ((List ((Int) × ((List (UInt8)) × ((List (UInt8)) × ((Int) × ((Int) × (Unit))))))) × ((List ((List (UInt8)) × ((Int) × ((Int) × (Unit))))) × ((Int) × (((Int) × ((List (UInt8)) × ((List (UInt8)) × ((Int) × ((Int) × (Unit)))))) × (((Int) × ((Int) × (Unit))) × ((Int) × ((Int) × (Unit)))))))) :=
 ((Go.Fn.mark_lexer__settle_c n a0)).bind fun r1 =>
 ((Go.Fn.mark_lexer__flush_c n r1)).bind fun r2 =>
 ((Go.Lf.app (56 : Nat) r2.1 ((a1, (a2, (([] : List (UInt8)), (r2.2.2.2.2.2.2.1, (a3, ()))))) :: ([] : List ((Int) × ((List (UInt8)) × ((List (UInt8)) × ((Int) × ((Int) × (Unit)))))))))).bind fun r3 =>
 some (r3, r2.2)
theorem mark_lexer__token_le (n : Nat) (a0 : (List ((Int) × ((List (UInt8)) × ((List (UInt8)) × ((Int) × ((Int) × (Unit))))))) × ((List ((List (UInt8)) × ((Int) × ((Int) × (Unit))))) × ((Int) × (((Int) × ((List (UInt8)) × ((List (UInt8)) × ((Int) × ((Int) × (Unit)))))) × (((Int) × ((Int) × (Unit))) × ((Int) × ((Int) × (Unit)))))))) (a1 : Int) (a2 : List (UInt8)) (a3 : Int) : Go.Lf.Le (mark_lexer__token_c n a0 a1 a2 a3) (mark_lexer__token a0 a1 a2 a3) := by
  unfold mark_lexer__token_c mark_lexer__token
  repeat' first
    | with_reducible exact Go.Fn.mark_lexer__flush_le n _
    | with_reducible exact Go.Fn.mark_lexer__settle_le n _
    | with_reducible refine Go.Lf.Le.bind ?_ (fun _ => ?_)
    | with_reducible refine Go.Lf.Le.cond ?_ ?_
    | with_reducible refine Go.Lf.Le.loop (fun _ => ?_)
    | with_reducible refine Go.Lf.Le.onSum (fun _ => ?_) (fun _ => ?_)
    | with_reducible exact Go.Lf.Le.refl
noncomputable def mark_lexer__brace_c (n : Nat) (a0 : (List ((Int) × ((List (UInt8)) × ((List (UInt8)) × ((Int) × ((Int) × (Unit))))))) × ((List ((List (UInt8)) × ((Int) × ((Int) × (Unit))))) × ((Int) × (((Int) × ((List (UInt8)) × ((List (UInt8)) × ((Int) × ((Int) × (Unit)))))) × (((Int) × ((Int) × (Unit))) × ((Int) × ((Int) × (Unit)))))))) (a1 : List (UInt8)) (a2 : Int) : Option ((Int) × ((Option ((Int) × (((Int) × ((Int) × ((Int) × ((Int) × ((List (UInt8)) × ((List ((List (UInt8)) × ((Int) × (Unit)))) × (Unit))))))) × (Unit)))) × ((List ((Int) × ((List (UInt8)) × ((List (UInt8)) × ((Int) × ((Int) × (Unit))))))) × ((List ((List (UInt8)) × ((Int) × ((Int) × (Unit))))) × ((Int) × (((Int) × ((List (UInt8)) × ((List (UInt8)) × ((Int) × ((Int) × (Unit)))))) × (((Int) × ((Int) × (Unit))) × ((Int) × ((Int) × (Unit)))))))))) :=
 ((Go.Lf.sub a1 (Go.IntKind.wrap .i64 (a2 + (1 : Int))) (((List.length a1) : Nat) : Int))).bind fun r1 =>
 ((Go.Fn.mark_name_c n r1)).bind fun r2 =>
 (bif (!(decide ((r2 : Int) = (0 : Int)))) then bif (!(decide ((12 : Int) < r2))) then bif (decide ((Go.IntKind.wrap .i64 ((Go.IntKind.wrap .i64 (a2 + (1 : Int))) + r2)) < (((List.length a1) : Nat) : Int))) then ((Go.Lf.idx a1 (Go.IntKind.wrap .i64 ((Go.IntKind.wrap .i64 (a2 + (1 : Int))) + r2)))).bind fun r3 =>
   ((Go.Fn.mark_blanked_c n (((UInt8.toNat r3) : Nat) : Int))).bind fun r4 =>
   bif (!r4) then ((Go.Lf.idx a1 (Go.IntKind.wrap .i64 ((Go.IntKind.wrap .i64 (a2 + (1 : Int))) + r2)))).bind fun r5 =>
   bif (decide (((((UInt8.toNat r5) : Nat) : Int) : Int) ≠ (124 : Int))) then ((Go.Lf.idx a1 (Go.IntKind.wrap .i64 ((Go.IntKind.wrap .i64 (a2 + (1 : Int))) + r2)))).bind fun r6 =>
   some ((decide (((((UInt8.toNat r6) : Nat) : Int) : Int) ≠ (125 : Int))), a0)
   else some (false, a0)
   else some (false, a0)
   else some (false, a0)
   else some (true, a0)
   else some (true, a0)).bind fun r7 =>
 bif r7.1 then ((Go.Fn.mark_wrong_c n (43 : Int) r7.2.2.2.2.2.2.2.1 (Go.IntKind.wrap .i64 (a2 + (1 : Int))) ([] : List (UInt8)))).bind fun r8 =>
 some ((0 : Int), (r8, r7.2))
 else ((Go.Lf.sub a1 (Go.IntKind.wrap .i64 (a2 + (1 : Int))) (Go.IntKind.wrap .i64 ((Go.IntKind.wrap .i64 (a2 + (1 : Int))) + r2)))).bind fun r9 =>
 bif (decide ((16 : Int) ≤ (((List.length r7.2.2.1) : Nat) : Int))) then ((Go.Fn.mark_wrong_c n (46 : Int) r7.2.2.2.2.2.2.2.1 (Go.IntKind.wrap .i64 (a2 + (1 : Int))) r9)).bind fun r10 =>
 some ((0 : Int), (r10, r7.2))
 else ((Go.Fn.mark_lexer__token_c n r7.2 (3 : Int) r9 (Go.IntKind.wrap .i64 (a2 + (1 : Int))))).bind fun r11 =>
 ((Go.Lf.app (32 : Nat) r11.2.1 ((r9, (r11.2.2.2.2.2.2.1, ((Go.IntKind.wrap .i64 (a2 + (1 : Int))), ()))) :: ([] : List ((List (UInt8)) × ((Int) × ((Int) × (Unit)))))))).bind fun r12 =>
 some ((Go.IntKind.wrap .i64 ((1 : Int) + r2)), ((none : Option ((Int) × (((Int) × ((Int) × ((Int) × ((Int) × ((List (UInt8)) × ((List ((List (UInt8)) × ((Int) × (Unit)))) × (Unit))))))) × (Unit)))), (r11.1, (r12, (r11.2.2.1, (r11.2.2.2.1, (r11.2.2.2.2.1, ((1 : Int), r11.2.2.2.2.2.2))))))))
theorem mark_lexer__brace_le (n : Nat) (a0 : (List ((Int) × ((List (UInt8)) × ((List (UInt8)) × ((Int) × ((Int) × (Unit))))))) × ((List ((List (UInt8)) × ((Int) × ((Int) × (Unit))))) × ((Int) × (((Int) × ((List (UInt8)) × ((List (UInt8)) × ((Int) × ((Int) × (Unit)))))) × (((Int) × ((Int) × (Unit))) × ((Int) × ((Int) × (Unit)))))))) (a1 : List (UInt8)) (a2 : Int) : Go.Lf.Le (mark_lexer__brace_c n a0 a1 a2) (mark_lexer__brace a0 a1 a2) := by
  unfold mark_lexer__brace_c mark_lexer__brace
  repeat' first
    | with_reducible exact Go.Fn.mark_blanked_le n _
    | with_reducible exact Go.Fn.mark_lexer__token_le n _ _ _ _
    | with_reducible exact Go.Fn.mark_name_le n _
    | with_reducible exact Go.Fn.mark_wrong_le n _ _ _ _
    | with_reducible refine Go.Lf.Le.bind ?_ (fun _ => ?_)
    | with_reducible refine Go.Lf.Le.cond ?_ ?_
    | with_reducible refine Go.Lf.Le.loop (fun _ => ?_)
    | with_reducible refine Go.Lf.Le.onSum (fun _ => ?_) (fun _ => ?_)
    | with_reducible exact Go.Lf.Le.refl
noncomputable def mark_lexer__char_c (n : Nat) (a0 : (List ((Int) × ((List (UInt8)) × ((List (UInt8)) × ((Int) × ((Int) × (Unit))))))) × ((List ((List (UInt8)) × ((Int) × ((Int) × (Unit))))) × ((Int) × (((Int) × ((List (UInt8)) × ((List (UInt8)) × ((Int) × ((Int) × (Unit)))))) × (((Int) × ((Int) × (Unit))) × ((Int) × ((Int) × (Unit)))))))) (a1 : List (UInt8)) (a2 : Int) : Option ((Int) × ((Option ((Int) × (((Int) × ((Int) × ((Int) × ((Int) × ((List (UInt8)) × ((List ((List (UInt8)) × ((Int) × (Unit)))) × (Unit))))))) × (Unit)))) × ((List ((Int) × ((List (UInt8)) × ((List (UInt8)) × ((Int) × ((Int) × (Unit))))))) × ((List ((List (UInt8)) × ((Int) × ((Int) × (Unit))))) × ((Int) × (((Int) × ((List (UInt8)) × ((List (UInt8)) × ((Int) × ((Int) × (Unit)))))) × (((Int) × ((Int) × (Unit))) × ((Int) × ((Int) × (Unit)))))))))) :=
 ((Go.Lf.idx a1 a2)).bind fun r1 =>
 ((Go.Fn.mark_blanked_c n (((UInt8.toNat r1) : Nat) : Int))).bind fun r2 =>
 bif r2 then ((Go.Fn.mark_lexer__wait_c n a0 (Go.IntKind.wrap .i64 (a2 + (1 : Int))))).bind fun r3 =>
 some ((1 : Int), ((none : Option ((Int) × (((Int) × ((Int) × ((Int) × ((Int) × ((List (UInt8)) × ((List ((List (UInt8)) × ((Int) × (Unit)))) × (Unit))))))) × (Unit)))), r3))
 else bif (decide (((((UInt8.toNat r1) : Nat) : Int) : Int) = (92 : Int))) then ((Go.Fn.mark_lexer__escape_c n a0 a1 a2)).bind fun r4 =>
 some (r4.1, (r4.2.1, r4.2.2))
 else bif (decide (((((UInt8.toNat r1) : Nat) : Int) : Int) = (123 : Int))) then ((Go.Fn.mark_lexer__brace_c n a0 a1 a2)).bind fun r5 =>
 some (r5.1, (r5.2.1, r5.2.2))
 else bif (decide (((((UInt8.toNat r1) : Nat) : Int) : Int) = (125 : Int))) then bif (decide (((((List.length a0.2.1) : Nat) : Int) : Int) = (0 : Int))) then ((Go.Fn.mark_wrong_c n (44 : Int) a0.2.2.2.2.2.2.1 (Go.IntKind.wrap .i64 (a2 + (1 : Int))) ([] : List (UInt8)))).bind fun r6 =>
 some ((0 : Int), (r6, a0))
 else ((Go.Fn.mark_lexer__token_c n a0 (5 : Int) ([] : List (UInt8)) (Go.IntKind.wrap .i64 (a2 + (1 : Int))))).bind fun r7 =>
 ((Go.Lf.sub r7.2.1 (0 : Int) (Go.IntKind.wrap .i64 ((((List.length a0.2.1) : Nat) : Int) - (1 : Int))))).bind fun r8 =>
 some ((1 : Int), ((none : Option ((Int) × (((Int) × ((Int) × ((Int) × ((Int) × ((List (UInt8)) × ((List ((List (UInt8)) × ((Int) × (Unit)))) × (Unit))))))) × (Unit)))), (r7.1, (r8, r7.2.2))))
 else (bif (decide (((((UInt8.toNat r1) : Nat) : Int) : Int) = (124 : Int))) then some ((decide ((0 : Int) < (((List.length a0.2.1) : Nat) : Int))), a0)
   else some (false, a0)).bind fun r9 =>
 bif r9.1 then ((Go.Fn.mark_lexer__token_c n r9.2 (4 : Int) ([] : List (UInt8)) (Go.IntKind.wrap .i64 (a2 + (1 : Int))))).bind fun r10 =>
 some ((1 : Int), ((none : Option ((Int) × (((Int) × ((Int) × ((Int) × ((Int) × ((List (UInt8)) × ((List ((List (UInt8)) × ((Int) × (Unit)))) × (Unit))))))) × (Unit)))), r10))
 else ((Go.Lf.sub a1 a2 (((List.length a1) : Nat) : Int))).bind fun r11 =>
 ((Go.Fn.utf8_DecodeRuneInString_c n r11)).bind fun r12 =>
 ((Go.Fn.mark_lexer__settle_c n r9.2)).bind fun r13 =>
 ((Go.Lf.sub a1 a2 (Go.IntKind.wrap .i64 (a2 + r12.2)))).bind fun r14 =>
 ((Go.Fn.mark_lexer__put_c n r13 r14 r13.2.2.2.2.2.2.1 (Go.IntKind.wrap .i64 (a2 + (1 : Int))))).bind fun r15 =>
 some (r12.2, ((none : Option ((Int) × (((Int) × ((Int) × ((Int) × ((Int) × ((List (UInt8)) × ((List ((List (UInt8)) × ((Int) × (Unit)))) × (Unit))))))) × (Unit)))), r15))
theorem mark_lexer__char_le (n : Nat) (a0 : (List ((Int) × ((List (UInt8)) × ((List (UInt8)) × ((Int) × ((Int) × (Unit))))))) × ((List ((List (UInt8)) × ((Int) × ((Int) × (Unit))))) × ((Int) × (((Int) × ((List (UInt8)) × ((List (UInt8)) × ((Int) × ((Int) × (Unit)))))) × (((Int) × ((Int) × (Unit))) × ((Int) × ((Int) × (Unit)))))))) (a1 : List (UInt8)) (a2 : Int) : Go.Lf.Le (mark_lexer__char_c n a0 a1 a2) (mark_lexer__char a0 a1 a2) := by
  unfold mark_lexer__char_c mark_lexer__char
  repeat' first
    | with_reducible exact Go.Fn.mark_blanked_le n _
    | with_reducible exact Go.Fn.mark_lexer__brace_le n _ _ _
    | with_reducible exact Go.Fn.mark_lexer__escape_le n _ _ _
    | with_reducible exact Go.Fn.mark_lexer__put_le n _ _ _ _
    | with_reducible exact Go.Fn.mark_lexer__settle_le n _
    | with_reducible exact Go.Fn.mark_lexer__token_le n _ _ _ _
    | with_reducible exact Go.Fn.mark_lexer__wait_le n _ _
    | with_reducible exact Go.Fn.mark_wrong_le n _ _ _ _
    | with_reducible exact Go.Fn.utf8_DecodeRuneInString_le n _
    | with_reducible refine Go.Lf.Le.bind ?_ (fun _ => ?_)
    | with_reducible refine Go.Lf.Le.cond ?_ ?_
    | with_reducible refine Go.Lf.Le.loop (fun _ => ?_)
    | with_reducible refine Go.Lf.Le.onSum (fun _ => ?_) (fun _ => ?_)
    | with_reducible exact Go.Lf.Le.refl
noncomputable def mark_lexer__text_c (n : Nat) (a0 : (List ((Int) × ((List (UInt8)) × ((List (UInt8)) × ((Int) × ((Int) × (Unit))))))) × ((List ((List (UInt8)) × ((Int) × ((Int) × (Unit))))) × ((Int) × (((Int) × ((List (UInt8)) × ((List (UInt8)) × ((Int) × ((Int) × (Unit)))))) × (((Int) × ((Int) × (Unit))) × ((Int) × ((Int) × (Unit)))))))) (a1 : List (UInt8)) : Option ((Option ((Int) × (((Int) × ((Int) × ((Int) × ((Int) × ((List (UInt8)) × ((List ((List (UInt8)) × ((Int) × (Unit)))) × (Unit))))))) × (Unit)))) × ((List ((Int) × ((List (UInt8)) × ((List (UInt8)) × ((Int) × ((Int) × (Unit))))))) × ((List ((List (UInt8)) × ((Int) × ((Int) × (Unit))))) × ((Int) × (((Int) × ((List (UInt8)) × ((List (UInt8)) × ((Int) × ((Int) × (Unit)))))) × (((Int) × ((Int) × (Unit))) × ((Int) × ((Int) × (Unit))))))))) :=
 (bif (decide ((a0.2.2.1 : Int) = (0 : Int))) then some (a0.1, (a0.2.1, ((1 : Int), (a0.2.2.2.1, (a0.2.2.2.2.1, ((1 : Int), a0.2.2.2.2.2.2))))))
   else some a0).bind fun r1 =>
 (Go.Lf.loopF n (σ := (Int) × ((List ((Int) × ((List (UInt8)) × ((List (UInt8)) × ((Int) × ((Int) × (Unit))))))) × ((List ((List (UInt8)) × ((Int) × ((Int) × (Unit))))) × ((Int) × (((Int) × ((List (UInt8)) × ((List (UInt8)) × ((Int) × ((Int) × (Unit)))))) × (((Int) × ((Int) × (Unit))) × ((Int) × ((Int) × (Unit))))))))) (κ := ((List ((Int) × ((List (UInt8)) × ((List (UInt8)) × ((Int) × ((Int) × (Unit))))))) × ((List ((List (UInt8)) × ((Int) × ((Int) × (Unit))))) × ((Int) × (((Int) × ((List (UInt8)) × ((List (UInt8)) × ((Int) × ((Int) × (Unit)))))) × (((Int) × ((Int) × (Unit))) × ((Int) × ((Int) × (Unit)))))))) ⊕ ((Option ((Int) × (((Int) × ((Int) × ((Int) × ((Int) × ((List (UInt8)) × ((List ((List (UInt8)) × ((Int) × (Unit)))) × (Unit))))))) × (Unit)))) × ((List ((Int) × ((List (UInt8)) × ((List (UInt8)) × ((Int) × ((Int) × (Unit))))))) × ((List ((List (UInt8)) × ((Int) × ((Int) × (Unit))))) × ((Int) × (((Int) × ((List (UInt8)) × ((List (UInt8)) × ((Int) × ((Int) × (Unit)))))) × (((Int) × ((Int) × (Unit))) × ((Int) × ((Int) × (Unit)))))))))) (fun z2 =>
     bif (decide (z2.1 < (((List.length a1) : Nat) : Int))) then ((Go.Fn.mark_lexer__char_c n z2.2 a1 z2.1)).bind fun r3 =>
     bif (Option.isSome r3.2.1) then some (.inr (.inr (r3.2.1, r3.2.2)))
     else some (.inl ((Go.IntKind.wrap .i64 (z2.1 + r3.1)), r3.2.2))
     else some (.inr (.inl z2.2))) ((0 : Int), r1) : Option (((List ((Int) × ((List (UInt8)) × ((List (UInt8)) × ((Int) × ((Int) × (Unit))))))) × ((List ((List (UInt8)) × ((Int) × ((Int) × (Unit))))) × ((Int) × (((Int) × ((List (UInt8)) × ((List (UInt8)) × ((Int) × ((Int) × (Unit)))))) × (((Int) × ((Int) × (Unit))) × ((Int) × ((Int) × (Unit)))))))) ⊕ ((Option ((Int) × (((Int) × ((Int) × ((Int) × ((Int) × ((List (UInt8)) × ((List ((List (UInt8)) × ((Int) × (Unit)))) × (Unit))))))) × (Unit)))) × ((List ((Int) × ((List (UInt8)) × ((List (UInt8)) × ((Int) × ((Int) × (Unit))))))) × ((List ((List (UInt8)) × ((Int) × ((Int) × (Unit))))) × ((Int) × (((Int) × ((List (UInt8)) × ((List (UInt8)) × ((Int) × ((Int) × (Unit)))))) × (((Int) × ((Int) × (Unit))) × ((Int) × ((Int) × (Unit))))))))))).bind fun r4 =>
 Go.Lf.onSum r4 (fun a5 =>
 ((Go.Fn.mark_lexer__wait_c n a5 (Go.IntKind.wrap .i64 ((((List.length a1) : Nat) : Int) + (1 : Int))))).bind fun r6 =>
 some ((none : Option ((Int) × (((Int) × ((Int) × ((Int) × ((Int) × ((List (UInt8)) × ((List ((List (UInt8)) × ((Int) × (Unit)))) × (Unit))))))) × (Unit)))), r6)) (fun b7 =>
 some (b7.1, b7.2))
theorem mark_lexer__text_le (n : Nat) (a0 : (List ((Int) × ((List (UInt8)) × ((List (UInt8)) × ((Int) × ((Int) × (Unit))))))) × ((List ((List (UInt8)) × ((Int) × ((Int) × (Unit))))) × ((Int) × (((Int) × ((List (UInt8)) × ((List (UInt8)) × ((Int) × ((Int) × (Unit)))))) × (((Int) × ((Int) × (Unit))) × ((Int) × ((Int) × (Unit)))))))) (a1 : List (UInt8)) : Go.Lf.Le (mark_lexer__text_c n a0 a1) (mark_lexer__text a0 a1) := by
  unfold mark_lexer__text_c mark_lexer__text
  repeat' first
    | with_reducible exact Go.Fn.mark_lexer__char_le n _ _ _
    | with_reducible exact Go.Fn.mark_lexer__wait_le n _ _
    | with_reducible refine Go.Lf.Le.bind ?_ (fun _ => ?_)
    | with_reducible refine Go.Lf.Le.cond ?_ ?_
    | with_reducible refine Go.Lf.Le.loop (fun _ => ?_)
    | with_reducible refine Go.Lf.Le.onSum (fun _ => ?_) (fun _ => ?_)
    | with_reducible exact Go.Lf.Le.refl
noncomputable def mark_lexer__take_c (n : Nat) (a0 : (List ((Int) × ((List (UInt8)) × ((List (UInt8)) × ((Int) × ((Int) × (Unit))))))) × ((List ((List (UInt8)) × ((Int) × ((Int) × (Unit))))) × ((Int) × (((Int) × ((List (UInt8)) × ((List (UInt8)) × ((Int) × ((Int) × (Unit)))))) × (((Int) × ((Int) × (Unit))) × ((Int) × ((Int) × (Unit)))))))) (a1 : List (UInt8)) : Option ((Option ((Int) × (((Int) × ((Int) × ((Int) × ((Int) × ((List (UInt8)) × ((List ((List (UInt8)) × ((Int) × (Unit)))) × (Unit))))))) × (Unit)))) × ((List ((Int) × ((List (UInt8)) × ((List (UInt8)) × ((Int) × ((Int) × (Unit))))))) × ((List ((List (UInt8)) × ((Int) × ((Int) × (Unit))))) × ((Int) × (((Int) × ((List (UInt8)) × ((List (UInt8)) × ((Int) × ((Int) × (Unit)))))) × (((Int) × ((Int) × (Unit))) × ((Int) × ((Int) × (Unit))))))))) :=
 ((Go.Fn.mark_lexer__check_c n a0 a1)).bind fun r1 =>
 bif (Option.isSome r1.1) then some (r1.1, r1.2)
 else ((Go.Fn.strings_HasPrefix_c n a1 ((35 : UInt8) :: ([] : List (UInt8))))).bind fun r2 =>
 bif r2 then some ((none : Option ((Int) × (((Int) × ((Int) × ((Int) × ((Int) × ((List (UInt8)) × ((List ((List (UInt8)) × ((Int) × (Unit)))) × (Unit))))))) × (Unit)))), r1.2)
 else ((Go.Fn.strings_Trim_c n a1 ((32 : UInt8) :: ((9 : UInt8) :: ([] : List (UInt8)))))).bind fun r3 =>
 bif (decide ((r3 : List (UInt8)) = ([] : List (UInt8)))) then ((Go.Fn.mark_lexer__end_c n r1.2)).bind fun r4 =>
 bif (Option.isSome r4.1) then some (r4.1, r4.2)
 else ((Go.Lf.app (56 : Nat) r4.2.1 (((2 : Int), (([] : List (UInt8)), (([] : List (UInt8)), (r4.2.2.2.2.2.2.2.1, ((1 : Int), ()))))) :: ([] : List ((Int) × ((List (UInt8)) × ((List (UInt8)) × ((Int) × ((Int) × (Unit)))))))))).bind fun r5 =>
 some ((none : Option ((Int) × (((Int) × ((Int) × ((Int) × ((Int) × ((List (UInt8)) × ((List ((List (UInt8)) × ((Int) × (Unit)))) × (Unit))))))) × (Unit)))), (r5, r4.2.2))
 else ((Go.Lf.idx a1 (0 : Int))).bind fun r6 =>
 bif (decide (((((UInt8.toNat r6) : Nat) : Int) : Int) = (46 : Int))) then ((Go.Fn.mark_lexer__directive_c n r1.2 a1)).bind fun r7 =>
 some (r7.1, r7.2)
 else ((Go.Fn.mark_lexer__text_c n r1.2 a1)).bind fun r8 =>
 some (r8.1, r8.2)
theorem mark_lexer__take_le (n : Nat) (a0 : (List ((Int) × ((List (UInt8)) × ((List (UInt8)) × ((Int) × ((Int) × (Unit))))))) × ((List ((List (UInt8)) × ((Int) × ((Int) × (Unit))))) × ((Int) × (((Int) × ((List (UInt8)) × ((List (UInt8)) × ((Int) × ((Int) × (Unit)))))) × (((Int) × ((Int) × (Unit))) × ((Int) × ((Int) × (Unit)))))))) (a1 : List (UInt8)) : Go.Lf.Le (mark_lexer__take_c n a0 a1) (mark_lexer__take a0 a1) := by
  unfold mark_lexer__take_c mark_lexer__take
  repeat' first
    | with_reducible exact Go.Fn.mark_lexer__check_le n _ _
    | with_reducible exact Go.Fn.mark_lexer__directive_le n _ _
    | with_reducible exact Go.Fn.mark_lexer__end_le n _
    | with_reducible exact Go.Fn.mark_lexer__text_le n _ _
    | with_reducible exact Go.Fn.strings_HasPrefix_le n _ _
    | with_reducible exact Go.Fn.strings_Trim_le n _ _
    | with_reducible refine Go.Lf.Le.bind ?_ (fun _ => ?_)
    | with_reducible refine Go.Lf.Le.cond ?_ ?_
    | with_reducible refine Go.Lf.Le.loop (fun _ => ?_)
    | with_reducible refine Go.Lf.Le.onSum (fun _ => ?_) (fun _ => ?_)
    | with_reducible exact Go.Lf.Le.refl
noncomputable def mark_Lex_c (n : Nat) (a0 : List (UInt8)) : Option ((List ((Int) × ((List (UInt8)) × ((List (UInt8)) × ((Int) × ((Int) × (Unit))))))) × (Option ((Int) × (((Int) × ((Int) × ((Int) × ((Int) × ((List (UInt8)) × ((List ((List (UInt8)) × ((Int) × (Unit)))) × (Unit))))))) × (Unit))))) :=
 bif (decide ((65536 : Int) < (((List.length a0) : Nat) : Int))) then ((Go.Fn.mark_wrong_c n (2 : Int) (0 : Int) (0 : Int) ([] : List (UInt8)))).bind fun r1 =>
 some (([] : List ((Int) × ((List (UInt8)) × ((List (UInt8)) × ((Int) × ((Int) × (Unit))))))), r1)
 else (Go.Lf.loopF n (σ := (List (UInt8)) × ((List ((Int) × ((List (UInt8)) × ((List (UInt8)) × ((Int) × ((Int) × (Unit))))))) × ((List ((List (UInt8)) × ((Int) × ((Int) × (Unit))))) × ((Int) × (((Int) × ((List (UInt8)) × ((List (UInt8)) × ((Int) × ((Int) × (Unit)))))) × (((Int) × ((Int) × (Unit))) × ((Int) × ((Int) × (Unit))))))))) (κ := ((List ((Int) × ((List (UInt8)) × ((List (UInt8)) × ((Int) × ((Int) × (Unit))))))) × ((List ((List (UInt8)) × ((Int) × ((Int) × (Unit))))) × ((Int) × (((Int) × ((List (UInt8)) × ((List (UInt8)) × ((Int) × ((Int) × (Unit)))))) × (((Int) × ((Int) × (Unit))) × ((Int) × ((Int) × (Unit)))))))) ⊕ ((List ((Int) × ((List (UInt8)) × ((List (UInt8)) × ((Int) × ((Int) × (Unit))))))) × (Option ((Int) × (((Int) × ((Int) × ((Int) × ((Int) × ((List (UInt8)) × ((List ((List (UInt8)) × ((Int) × (Unit)))) × (Unit))))))) × (Unit)))))) (fun z2 =>
     bif (decide ((0 : Int) < (((List.length z2.1) : Nat) : Int))) then ((Go.Fn.strings_Cut_c n z2.1 ((10 : UInt8) :: ([] : List (UInt8))))).bind fun r3 =>
     ((bif (!r3.2.2) then some ((decide ((r3.2.1 : List (UInt8)) = ([] : List (UInt8)))), (z2.2.1, (z2.2.2.1, (z2.2.2.2.1, (z2.2.2.2.2.1, (z2.2.2.2.2.2.1, (z2.2.2.2.2.2.2.1, ((Go.IntKind.wrap .i64 (z2.2.2.2.2.2.2.2.1 + (1 : Int))), z2.2.2.2.2.2.2.2.2))))))))
         else some (true, (z2.2.1, (z2.2.2.1, (z2.2.2.2.1, (z2.2.2.2.2.1, (z2.2.2.2.2.2.1, (z2.2.2.2.2.2.2.1, ((Go.IntKind.wrap .i64 (z2.2.2.2.2.2.2.2.1 + (1 : Int))), z2.2.2.2.2.2.2.2.2))))))))).bind fun r4 =>
       bif r4.1 then ((Go.Fn.strings_TrimSuffix_c n r3.1 ((13 : UInt8) :: ([] : List (UInt8))))).bind fun r5 =>
       some (r5, r4.2)
       else some (r3.1, r4.2)).bind fun r6 =>
     ((Go.Fn.mark_lexer__take_c n r6.2 r6.1)).bind fun r7 =>
     bif (Option.isSome r7.1) then some (.inr (.inr (([] : List ((Int) × ((List (UInt8)) × ((List (UInt8)) × ((Int) × ((Int) × (Unit))))))), r7.1)))
     else some (.inl (r3.2.1, r7.2))
     else some (.inr (.inl z2.2))) (a0, (([] : List ((Int) × ((List (UInt8)) × ((List (UInt8)) × ((Int) × ((Int) × (Unit))))))), (([] : List ((List (UInt8)) × ((Int) × ((Int) × (Unit))))), ((0 : Int), (((0 : Int), (([] : List (UInt8)), (([] : List (UInt8)), ((0 : Int), ((0 : Int), ()))))), (((0 : Int), ((0 : Int), ())), ((0 : Int), ((0 : Int), ())))))))) : Option (((List ((Int) × ((List (UInt8)) × ((List (UInt8)) × ((Int) × ((Int) × (Unit))))))) × ((List ((List (UInt8)) × ((Int) × ((Int) × (Unit))))) × ((Int) × (((Int) × ((List (UInt8)) × ((List (UInt8)) × ((Int) × ((Int) × (Unit)))))) × (((Int) × ((Int) × (Unit))) × ((Int) × ((Int) × (Unit)))))))) ⊕ ((List ((Int) × ((List (UInt8)) × ((List (UInt8)) × ((Int) × ((Int) × (Unit))))))) × (Option ((Int) × (((Int) × ((Int) × ((Int) × ((Int) × ((List (UInt8)) × ((List ((List (UInt8)) × ((Int) × (Unit)))) × (Unit))))))) × (Unit))))))).bind fun r8 =>
 Go.Lf.onSum r8 (fun a9 =>
 ((Go.Fn.mark_lexer__end_c n a9)).bind fun r10 =>
 bif (Option.isSome r10.1) then some (([] : List ((Int) × ((List (UInt8)) × ((List (UInt8)) × ((Int) × ((Int) × (Unit))))))), r10.1)
 else some (r10.2.1, (none : Option ((Int) × (((Int) × ((Int) × ((Int) × ((Int) × ((List (UInt8)) × ((List ((List (UInt8)) × ((Int) × (Unit)))) × (Unit))))))) × (Unit)))))) (fun b11 =>
 some (b11.1, b11.2))
theorem mark_Lex_le (n : Nat) (a0 : List (UInt8)) : Go.Lf.Le (mark_Lex_c n a0) (mark_Lex a0) := by
  unfold mark_Lex_c mark_Lex
  repeat' first
    | with_reducible exact Go.Fn.mark_lexer__end_le n _
    | with_reducible exact Go.Fn.mark_lexer__take_le n _ _
    | with_reducible exact Go.Fn.mark_wrong_le n _ _ _ _
    | with_reducible exact Go.Fn.strings_Cut_le n _ _
    | with_reducible exact Go.Fn.strings_TrimSuffix_le n _ _
    | with_reducible refine Go.Lf.Le.bind ?_ (fun _ => ?_)
    | with_reducible refine Go.Lf.Le.cond ?_ ?_
    | with_reducible refine Go.Lf.Le.loop (fun _ => ?_)
    | with_reducible refine Go.Lf.Le.onSum (fun _ => ?_) (fun _ => ?_)
    | with_reducible exact Go.Lf.Le.refl
noncomputable def fault_Error__is_c (n : Nat) (a0 : Option ((Int) × (((Int) × ((Int) × ((Int) × ((Int) × ((List (UInt8)) × ((List ((List (UInt8)) × ((Int) × (Unit)))) × (Unit))))))) × (Unit)))) : Option (Bool) :=
 (bif (Option.isSome a0) then (a0).bind fun r1 =>
   some (decide ((r1.1 : Int) = (1 : Int)))
   else some false).bind fun r2 =>
 some r2
theorem fault_Error__is_le (n : Nat) (a0 : Option ((Int) × (((Int) × ((Int) × ((Int) × ((Int) × ((List (UInt8)) × ((List ((List (UInt8)) × ((Int) × (Unit)))) × (Unit))))))) × (Unit)))) : Go.Lf.Le (fault_Error__is_c n a0) (fault_Error__is a0) := by
  unfold fault_Error__is_c fault_Error__is
  repeat' first
    | with_reducible refine Go.Lf.Le.bind ?_ (fun _ => ?_)
    | with_reducible refine Go.Lf.Le.cond ?_ ?_
    | with_reducible refine Go.Lf.Le.loop (fun _ => ?_)
    | with_reducible refine Go.Lf.Le.onSum (fun _ => ?_) (fun _ => ?_)
    | with_reducible exact Go.Lf.Le.refl
noncomputable def fault_gather_c (n : Nat) (a0 : Option ((Int) × (((Int) × ((Int) × ((Int) × ((Int) × ((List (UInt8)) × ((List ((List (UInt8)) × ((Int) × (Unit)))) × (Unit))))))) × (Unit)))) (a1 : (Int) × ((Int) × ((List ((List (UInt8)) × ((Int) × (Unit)))) × (Unit)))) (a2 : List ((Int) × ((Int) × ((Int) × ((Int) × ((List (UInt8)) × ((List ((List (UInt8)) × ((Int) × (Unit)))) × (Unit)))))))) : Option (List ((Int) × ((Int) × ((Int) × ((Int) × ((List (UInt8)) × ((List ((List (UInt8)) × ((Int) × (Unit)))) × (Unit)))))))) :=
 (bif (Option.isNone a0) then some a2
   else bif (Option.isSome a0) then ((Go.Fn.fault_Error__is_c n a0)).bind fun r1 =>
   bif r1 then (a0).bind fun r2 =>
   (bif (decide ((a1.1 : Int) = (1 : Int))) then some (a2, ((r2.2.1.1, (a1.2.1, r2.2.1.2.2)), a1))
     else some (a2, (r2.2.1, a1))).bind fun r3 =>
   ((Go.Lf.app (24 : Nat) ([] : List ((List (UInt8)) × ((Int) × (Unit)))) r3.2.2.2.2.1)).bind fun r4 =>
   ((Go.Lf.app (72 : Nat) r3.1 ((r3.2.1.1, (r3.2.1.2.1, (r3.2.1.2.2.1, (r3.2.1.2.2.2.1, (r3.2.1.2.2.2.2.1, (r4, r3.2.1.2.2.2.2.2.2)))))) :: ([] : List ((Int) × ((Int) × ((Int) × ((Int) × ((List (UInt8)) × ((List ((List (UInt8)) × ((Int) × (Unit)))) × (Unit))))))))))).bind fun r5 =>
   some r5
   else some a2
   else (bif (Option.isSome a0) then none
     else some ()).bind fun r6 =>
   (bif (Option.isSome a0) then none
     else some ()).bind fun r7 =>
   some a2).bind fun r8 =>
 some r8
theorem fault_gather_le (n : Nat) (a0 : Option ((Int) × (((Int) × ((Int) × ((Int) × ((Int) × ((List (UInt8)) × ((List ((List (UInt8)) × ((Int) × (Unit)))) × (Unit))))))) × (Unit)))) (a1 : (Int) × ((Int) × ((List ((List (UInt8)) × ((Int) × (Unit)))) × (Unit)))) (a2 : List ((Int) × ((Int) × ((Int) × ((Int) × ((List (UInt8)) × ((List ((List (UInt8)) × ((Int) × (Unit)))) × (Unit)))))))) : Go.Lf.Le (fault_gather_c n a0 a1 a2) (fault_gather a0 a1 a2) := by
  unfold fault_gather_c fault_gather
  repeat' first
    | with_reducible exact Go.Fn.fault_Error__is_le n _
    | with_reducible refine Go.Lf.Le.bind ?_ (fun _ => ?_)
    | with_reducible refine Go.Lf.Le.cond ?_ ?_
    | with_reducible refine Go.Lf.Le.loop (fun _ => ?_)
    | with_reducible refine Go.Lf.Le.onSum (fun _ => ?_) (fun _ => ?_)
    | with_reducible exact Go.Lf.Le.refl
noncomputable def fault_bare_c (n : Nat) (a0 : Option ((Int) × (((Int) × ((Int) × ((Int) × ((Int) × ((List (UInt8)) × ((List ((List (UInt8)) × ((Int) × (Unit)))) × (Unit))))))) × (Unit)))) : Option (List ((List (UInt8)) × ((Int) × (Unit)))) :=
 (Go.Lf.loopF n (σ := (List ((List (UInt8)) × ((Int) × (Unit)))) × (Option ((Int) × (((Int) × ((Int) × ((Int) × ((Int) × ((List (UInt8)) × ((List ((List (UInt8)) × ((Int) × (Unit)))) × (Unit))))))) × (Unit))))) (κ := List ((List (UInt8)) × ((Int) × (Unit)))) (fun z1 =>
     some (.inr z1.1)) (([] : List ((List (UInt8)) × ((Int) × (Unit)))), a0) : Option (List ((List (UInt8)) × ((Int) × (Unit))))).bind fun r2 =>
 some r2
theorem fault_bare_le (n : Nat) (a0 : Option ((Int) × (((Int) × ((Int) × ((Int) × ((Int) × ((List (UInt8)) × ((List ((List (UInt8)) × ((Int) × (Unit)))) × (Unit))))))) × (Unit)))) : Go.Lf.Le (fault_bare_c n a0) (fault_bare a0) := by
  unfold fault_bare_c fault_bare
  repeat' first
    | with_reducible refine Go.Lf.Le.bind ?_ (fun _ => ?_)
    | with_reducible refine Go.Lf.Le.cond ?_ ?_
    | with_reducible refine Go.Lf.Le.loop (fun _ => ?_)
    | with_reducible refine Go.Lf.Le.onSum (fun _ => ?_) (fun _ => ?_)
    | with_reducible exact Go.Lf.Le.refl
noncomputable def fault_All_c (n : Nat) (a0 : Option ((Int) × (((Int) × ((Int) × ((Int) × ((Int) × ((List (UInt8)) × ((List ((List (UInt8)) × ((Int) × (Unit)))) × (Unit))))))) × (Unit)))) : Option (List ((Int) × ((Int) × ((Int) × ((Int) × ((List (UInt8)) × ((List ((List (UInt8)) × ((Int) × (Unit)))) × (Unit)))))))) :=
 bif (Option.isNone a0) then some ([] : List ((Int) × ((Int) × ((Int) × ((Int) × ((List (UInt8)) × ((List ((List (UInt8)) × ((Int) × (Unit)))) × (Unit))))))))
 else ((Go.Fn.fault_gather_c n a0 ((0 : Int), ((0 : Int), (([] : List ((List (UInt8)) × ((Int) × (Unit)))), ()))) ([] : List ((Int) × ((Int) × ((Int) × ((Int) × ((List (UInt8)) × ((List ((List (UInt8)) × ((Int) × (Unit)))) × (Unit)))))))))).bind fun r1 =>
 bif (decide ((0 : Int) < (((List.length r1) : Nat) : Int))) then some r1
 else ((Go.Fn.fault_bare_c n a0)).bind fun r2 =>
 some (((10 : Int), ((0 : Int), ((0 : Int), ((0 : Int), (([] : List (UInt8)), (r2, ())))))) :: ([] : List ((Int) × ((Int) × ((Int) × ((Int) × ((List (UInt8)) × ((List ((List (UInt8)) × ((Int) × (Unit)))) × (Unit)))))))))
theorem fault_All_le (n : Nat) (a0 : Option ((Int) × (((Int) × ((Int) × ((Int) × ((Int) × ((List (UInt8)) × ((List ((List (UInt8)) × ((Int) × (Unit)))) × (Unit))))))) × (Unit)))) : Go.Lf.Le (fault_All_c n a0) (fault_All a0) := by
  unfold fault_All_c fault_All
  repeat' first
    | with_reducible exact Go.Fn.fault_bare_le n _
    | with_reducible exact Go.Fn.fault_gather_le n _ _ _
    | with_reducible refine Go.Lf.Le.bind ?_ (fun _ => ?_)
    | with_reducible refine Go.Lf.Le.cond ?_ ?_
    | with_reducible refine Go.Lf.Le.loop (fun _ => ?_)
    | with_reducible refine Go.Lf.Le.onSum (fun _ => ?_) (fun _ => ?_)
    | with_reducible exact Go.Lf.Le.refl
noncomputable def fault_Told_c (n : Nat) (a0 : Option ((Int) × (((Int) × ((Int) × ((Int) × ((Int) × ((List (UInt8)) × ((List ((List (UInt8)) × ((Int) × (Unit)))) × (Unit))))))) × (Unit)))) : Option ((Int) × ((Int) × ((Int) × ((Int) × ((List (UInt8)) × ((List ((List (UInt8)) × ((Int) × (Unit)))) × (Unit))))))) :=
 ((Go.Fn.fault_All_c n a0)).bind fun r1 =>
 bif (decide (((((List.length r1) : Nat) : Int) : Int) = (0 : Int))) then some ((0 : Int), ((0 : Int), ((0 : Int), ((0 : Int), (([] : List (UInt8)), (([] : List ((List (UInt8)) × ((Int) × (Unit)))), ()))))))
 else ((Go.Lf.idx r1 (0 : Int))).bind fun r2 =>
 some r2
theorem fault_Told_le (n : Nat) (a0 : Option ((Int) × (((Int) × ((Int) × ((Int) × ((Int) × ((List (UInt8)) × ((List ((List (UInt8)) × ((Int) × (Unit)))) × (Unit))))))) × (Unit)))) : Go.Lf.Le (fault_Told_c n a0) (fault_Told a0) := by
  unfold fault_Told_c fault_Told
  repeat' first
    | with_reducible exact Go.Fn.fault_All_le n _
    | with_reducible refine Go.Lf.Le.bind ?_ (fun _ => ?_)
    | with_reducible refine Go.Lf.Le.cond ?_ ?_
    | with_reducible refine Go.Lf.Le.loop (fun _ => ?_)
    | with_reducible refine Go.Lf.Le.onSum (fun _ => ?_) (fun _ => ?_)
    | with_reducible exact Go.Lf.Le.refl
noncomputable def foliolaw04_told_c (n : Nat) (a0 : Option ((Int) × (((Int) × ((Int) × ((Int) × ((Int) × ((List (UInt8)) × ((List ((List (UInt8)) × ((Int) × (Unit)))) × (Unit))))))) × (Unit)))) (a1 : (Int) × ((Int) × ((Int) × ((List (UInt8)) × (Unit))))) : Option (Bool) :=
 bif (decide ((a1.1 : Int) = (0 : Int))) then some (Option.isNone a0)
 else ((Go.Fn.fault_Told_c n a0)).bind fun r1 =>
 (bif (Option.isSome a0) then bif (decide ((r1.1 : Int) = a1.1)) then bif (decide ((r1.2.1 : Int) = (0 : Int))) then bif (decide ((r1.2.2.1 : Int) = a1.2.1)) then bif (decide ((r1.2.2.2.1 : Int) = a1.2.2.1)) then bif (decide ((r1.2.2.2.2.1 : List (UInt8)) = a1.2.2.2.1)) then bif (decide (((((List.length r1.2.2.2.2.2.1) : Nat) : Int) : Int) = (0 : Int))) then ((Go.Fn.fault_All_c n a0)).bind fun r2 =>
   some (decide (((((List.length r2) : Nat) : Int) : Int) = (1 : Int)))
   else some false
   else some false
   else some false
   else some false
   else some false
   else some false
   else some false).bind fun r3 =>
 some r3
theorem foliolaw04_told_le (n : Nat) (a0 : Option ((Int) × (((Int) × ((Int) × ((Int) × ((Int) × ((List (UInt8)) × ((List ((List (UInt8)) × ((Int) × (Unit)))) × (Unit))))))) × (Unit)))) (a1 : (Int) × ((Int) × ((Int) × ((List (UInt8)) × (Unit))))) : Go.Lf.Le (foliolaw04_told_c n a0 a1) (foliolaw04_told a0 a1) := by
  unfold foliolaw04_told_c foliolaw04_told
  repeat' first
    | with_reducible exact Go.Fn.fault_All_le n _
    | with_reducible exact Go.Fn.fault_Told_le n _
    | with_reducible refine Go.Lf.Le.bind ?_ (fun _ => ?_)
    | with_reducible refine Go.Lf.Le.cond ?_ ?_
    | with_reducible refine Go.Lf.Le.loop (fun _ => ?_)
    | with_reducible refine Go.Lf.Le.onSum (fun _ => ?_) (fun _ => ?_)
    | with_reducible exact Go.Lf.Le.refl
noncomputable def foliolaw04_awake_c (n : Nat)  : Option (Bool) :=
 ((Go.Fn.mark_Lex_c n ((111 : UInt8) :: ((110 : UInt8) :: ((101 : UInt8) :: ((32 : UInt8) :: ((123 : UInt8) :: ((98 : UInt8) :: ((32 : UInt8) :: ((116 : UInt8) :: ((119 : UInt8) :: ((111 : UInt8) :: ((125 : UInt8) :: ((32 : UInt8) :: ((32 : UInt8) :: ((116 : UInt8) :: ((104 : UInt8) :: ((114 : UInt8) :: ((101 : UInt8) :: ((101 : UInt8) :: ((10 : UInt8) :: ((102 : UInt8) :: ((111 : UInt8) :: ((117 : UInt8) :: ((114 : UInt8) :: ([] : List (UInt8))))))))))))))))))))))))))).bind fun r1 =>
 ((Go.Fn.mark_Lex_c n ((46 : UInt8) :: ((116 : UInt8) :: ((111 : UInt8) :: ((112 : UInt8) :: ((105 : UInt8) :: ((99 : UInt8) :: ((115 : UInt8) :: ((49 : UInt8) :: ([] : List (UInt8)))))))))))).bind fun r2 =>
 (bif (Option.isNone r1.2) then bif (decide (((((List.length r1.1) : Nat) : Int) : Int) = (5 : Int))) then ((Go.Lf.idx r1.1 (0 : Int))).bind fun r3 =>
   bif (decide ((r3.2.2.1 : List (UInt8)) = ((111 : UInt8) :: ((110 : UInt8) :: ((101 : UInt8) :: ((32 : UInt8) :: ([] : List (UInt8)))))))) then ((Go.Lf.idx r1.1 (1 : Int))).bind fun r4 =>
   bif (decide ((r4.2.1 : List (UInt8)) = ((98 : UInt8) :: ([] : List (UInt8))))) then ((Go.Lf.idx r1.1 (1 : Int))).bind fun r5 =>
   bif (decide ((r5.2.2.2.2.1 : Int) = (5 : Int))) then ((Go.Lf.idx r1.1 (4 : Int))).bind fun r6 =>
   bif (decide ((r6.2.2.1 : List (UInt8)) = ((32 : UInt8) :: ((116 : UInt8) :: ((104 : UInt8) :: ((114 : UInt8) :: ((101 : UInt8) :: ((101 : UInt8) :: ((32 : UInt8) :: ((102 : UInt8) :: ((111 : UInt8) :: ((117 : UInt8) :: ((114 : UInt8) :: ([] : List (UInt8))))))))))))))) then ((Go.Lf.idx r1.1 (4 : Int))).bind fun r7 =>
   bif (decide ((r7.1 : Int) = (6 : Int))) then ((Go.Fn.foliolaw04_told_c n r2.2 ((41 : Int), ((1 : Int), ((2 : Int), (((116 : UInt8) :: ((111 : UInt8) :: ((112 : UInt8) :: ((105 : UInt8) :: ((99 : UInt8) :: ((115 : UInt8) :: ([] : List (UInt8)))))))), ())))))).bind fun r8 =>
   bif r8 then ((Go.Fn.mark_Escape_c n ((46 : UInt8) :: ((97 : UInt8) :: ((123 : UInt8) :: ([] : List (UInt8))))))).bind fun r9 =>
   some (decide ((r9 : List (UInt8)) = ((92 : UInt8) :: ((46 : UInt8) :: ((97 : UInt8) :: ((92 : UInt8) :: ((123 : UInt8) :: ([] : List (UInt8)))))))))
   else some false
   else some false
   else some false
   else some false
   else some false
   else some false
   else some false
   else some false).bind fun r10 =>
 some r10
theorem foliolaw04_awake_le (n : Nat)  : Go.Lf.Le (foliolaw04_awake_c n ) (foliolaw04_awake ) := by
  unfold foliolaw04_awake_c foliolaw04_awake
  repeat' first
    | with_reducible exact Go.Fn.foliolaw04_told_le n _ _
    | with_reducible exact Go.Fn.mark_Escape_le n _
    | with_reducible exact Go.Fn.mark_Lex_le n _
    | with_reducible refine Go.Lf.Le.bind ?_ (fun _ => ?_)
    | with_reducible refine Go.Lf.Le.cond ?_ ?_
    | with_reducible refine Go.Lf.Le.loop (fun _ => ?_)
    | with_reducible refine Go.Lf.Le.onSum (fun _ => ?_) (fun _ => ?_)
    | with_reducible exact Go.Lf.Le.refl
noncomputable def foliolaw04_MarkEscapes_c (n : Nat) (a0 : List (UInt8)) : Option (Bool) :=
 (((Go.Fn.mark_Escape_c n a0)).bind fun r1 =>
   ((Go.Fn.folioref04_Escape_c n a0)).bind fun r2 =>
   bif (decide ((r1 : List (UInt8)) = r2)) then (Go.Fn.foliolaw04_awake_c n).bind fun r3 =>
   some r3
   else some false).bind fun r4 =>
 some r4
theorem foliolaw04_MarkEscapes_le (n : Nat) (a0 : List (UInt8)) : Go.Lf.Le (foliolaw04_MarkEscapes_c n a0) (foliolaw04_MarkEscapes a0) := by
  unfold foliolaw04_MarkEscapes_c foliolaw04_MarkEscapes
  repeat' first
    | with_reducible exact Go.Fn.foliolaw04_awake_le n
    | with_reducible exact Go.Fn.folioref04_Escape_le n _
    | with_reducible exact Go.Fn.mark_Escape_le n _
    | with_reducible refine Go.Lf.Le.bind ?_ (fun _ => ?_)
    | with_reducible refine Go.Lf.Le.cond ?_ ?_
    | with_reducible refine Go.Lf.Le.loop (fun _ => ?_)
    | with_reducible refine Go.Lf.Le.onSum (fun _ => ?_) (fun _ => ?_)
    | with_reducible exact Go.Lf.Le.refl
end Go.Fn
/- The chapter's first examples, reckoned. -/
namespace Go.Fn
open Go Go.Lf
theorem awake_c : foliolaw04_awake_c 60 = some true := by kernel_rfl
theorem awake : foliolaw04_awake = some true := foliolaw04_awake_le 60 _ awake_c
end Go.Fn
/-
  Loops over lists, plainly.
-/
namespace Go.Lf
open Go

theorem wrap64 {x : Int} (h0 : -9223372036854775808 ≤ x) (h1 : x ≤ 9223372036854775807) : IntKind.wrap .i64 x = x := by
  simp only [IntKind.wrap]
  simp [IntKind.bits, IntKind.signed]
  omega
theorem wrapS {n : Nat} (h : n < 9223372036854775807) : IntKind.wrap .i64 ((n : Int) + 1) = ((n + 1 : Nat) : Int) := by
  rw [wrap64 (by omega) (by omega)]; omega
theorem idx_nat {α : Type} (l : List α) (i : Nat) : idx l (i : Int) = l[i]? := by
  unfold idx
  rw [if_pos (by omega)]; rfl
theorem sub_nat {α : Type} {l : List α} {a b : Nat} (h : a ≤ b) (hb : b ≤ l.length) : sub l (a : Int) (b : Int) = some ((l.drop a).take (b - a)) := by
  unfold sub
  rw [if_pos (by omega)]; rfl
theorem app_of {α : Type} {b : Nat} {l m : List α} (h : (l.length + m.length) * b ≤ 140737488355328) : app b l m = some (l ++ m) := if_pos h
theorem cat_of {l m : List UInt8} (h : l.length + m.length ≤ 9223372036854775807) : cat l m = some (l ++ m) := if_pos h
section
variable {α σ κ : Type}
/-- a list, one by one -/
def foldE (step : α → σ → Option (σ ⊕ κ)) (fin : σ → κ) : List α → σ → Option κ
  | [], s => some (fin s)
  | x :: r, s => (step x s).bind fun d => onSum d (foldE step fin r) some
theorem range_loop {l : List α} {B : Int × σ → Option ((Int × σ) ⊕ κ)} (step : α → σ → Option (σ ⊕ κ)) (fin : σ → κ)
    (h1 : ∀ (i : Nat) x s, l[i]? = some x → B ((i : Int), s) = (step x s).map fun d => onSum d (fun s' => .inl (((i + 1 : Nat) : Int), s')) .inr) (h2 : ∀ s, B ((l.length : Int), s) = some (.inr (fin s))) :
    ∀ (m i : Nat) (s : σ), i + m = l.length → loopC B ((i : Int), s) = foldE step fin (l.drop i) s
  | 0, i, s, h => by
    have : i = l.length := by omega
    subst this
    rw [loopC_step, h2, List.drop_length]
    rfl
  | m + 1, i, s, h => by
    have hlt : i < l.length := by omega
    rw [loopC_step, h1 i l[i] s (List.getElem?_eq_getElem hlt), List.drop_eq_getElem_cons hlt]
    unfold foldE
    cases step l[i] s with
    | none => rfl
    | some d =>
      cases d with
      | inl s' => exact range_loop step fin h1 h2 m (i + 1) s' (by omega)
      | inr k => rfl
/-- a list, one by one, with the elements' numbers -/
def foldI (step : Nat → α → σ → Option (σ ⊕ κ)) (fin : σ → κ) : Nat → List α → σ → Option κ
  | _, [], s => some (fin s)
  | i, x :: r, s => (step i x s).bind fun d => onSum d (foldI step fin (i + 1) r) some
theorem range_loopI {l : List α} {B : Int × σ → Option ((Int × σ) ⊕ κ)} (step : Nat → α → σ → Option (σ ⊕ κ)) (fin : σ → κ)
    (h1 : ∀ (i : Nat) x s, l[i]? = some x → B ((i : Int), s) = (step i x s).map fun d => onSum d (fun s' => .inl (((i + 1 : Nat) : Int), s')) .inr) (h2 : ∀ s, B ((l.length : Int), s) = some (.inr (fin s))) :
    ∀ (m i : Nat) (s : σ), i + m = l.length → loopC B ((i : Int), s) = foldI step fin i (l.drop i) s
  | 0, i, s, h => by
    have : i = l.length := by omega
    subst this
    rw [loopC_step, h2, List.drop_length]
    rfl
  | m + 1, i, s, h => by
    have hlt : i < l.length := by omega
    rw [loopC_step, h1 i l[i] s (List.getElem?_eq_getElem hlt), List.drop_eq_getElem_cons hlt]
    unfold foldI
    cases step i l[i] s with
    | none => rfl
    | some d =>
      cases d with
      | inl s' => exact range_loopI step fin h1 h2 m (i + 1) s' (by omega)
      | inr k => rfl
theorem range_loopI0 {l : List α} {B : Int → Option (Int ⊕ κ)} (step : Nat → α → Option (Unit ⊕ κ)) (fin : κ)
    (h1 : ∀ (i : Nat) x, l[i]? = some x → B (i : Int) = (step i x).map fun d => onSum d (fun _ => .inl ((i + 1 : Nat) : Int)) .inr) (h2 : B (l.length : Int) = some (.inr fin)) :
    ∀ (m i : Nat), i + m = l.length → loopC B (i : Int) = foldI (fun i x (_ : Unit) => step i x) (fun _ => fin) i (l.drop i) ()
  | 0, i, h => by
    have : i = l.length := by omega
    subst this
    rw [loopC_step, h2, List.drop_length]
    rfl
  | m + 1, i, h => by
    have hlt : i < l.length := by omega
    rw [loopC_step, h1 i l[i] (List.getElem?_eq_getElem hlt), List.drop_eq_getElem_cons hlt]
    unfold foldI
    cases step i l[i] with
    | none => rfl
    | some d =>
      cases d with
      | inl s' => exact range_loopI0 step fin h1 h2 m (i + 1) (by omega)
      | inr k => rfl
/-- the same of a loop whose state is the number alone -/
theorem range_loop0 {l : List α} {B : Int → Option (Int ⊕ κ)} (step : α → Option (Unit ⊕ κ)) (fin : κ)
    (h1 : ∀ (i : Nat) x, l[i]? = some x → B (i : Int) = (step x).map fun d => onSum d (fun _ => .inl ((i + 1 : Nat) : Int)) .inr) (h2 : B (l.length : Int) = some (.inr fin)) :
    ∀ (m i : Nat), i + m = l.length → loopC B (i : Int) = foldE (fun x (_ : Unit) => step x) (fun _ => fin) (l.drop i) ()
  | 0, i, h => by
    have : i = l.length := by omega
    subst this
    rw [loopC_step, h2, List.drop_length]
    rfl
  | m + 1, i, h => by
    have hlt : i < l.length := by omega
    rw [loopC_step, h1 i l[i] (List.getElem?_eq_getElem hlt), List.drop_eq_getElem_cons hlt]
    unfold foldE
    cases step l[i] with
    | none => rfl
    | some d =>
      cases d with
      | inl s' => exact range_loop0 step fin h1 h2 m (i + 1) (by omega)
      | inr k => rfl
end
end Go.Lf
/- Chapter 4, plainly: escapes. -/
namespace Go.Fn
open Go Go.Lf

theorem nat8 (b c : UInt8) : decide (((b.toNat : Nat) : Int) = ((c.toNat : Nat) : Int)) = (b == c) := by
  by_cases h : b = c
  · subst h; simp
  · have : ¬ ((b.toNat : Nat) : Int) = ((c.toNat : Nat) : Int) := fun e => h (UInt8.toNat_inj.1 (by omega))
    simp [this, h]
theorem cond7 : ∀ b1 b2 b3 b4 b0 b5 b6 : Bool, (bif !b1 then bif !b2 then bif !b3 then bif !b4 then bif b0 then bif !b5 then some b6 else some true else some false else some true else some true else some true else some true) = some ((b1 || b2 || b3 || b4) || (b0 && (b5 || b6))) := by decide
theorem ref_loop (s : List UInt8) (hs : s.length ≤ 70368744177664) (B : Int × List UInt8 → Option ((Int × List UInt8) ⊕ List UInt8)) (hB : ∀ z1, B z1 = (bif (decide (z1.1 < (((List.length s) : Nat) : Int))) then ((((Go.Lf.idx s z1.1)).bind fun r2 =>
         bif (!(decide (((((UInt8.toNat r2) : Nat) : Int) : Int) = (92 : Int)))) then ((Go.Lf.idx s z1.1)).bind fun r3 =>
         bif (!(decide (((((UInt8.toNat r3) : Nat) : Int) : Int) = (123 : Int)))) then ((Go.Lf.idx s z1.1)).bind fun r4 =>
         bif (!(decide (((((UInt8.toNat r4) : Nat) : Int) : Int) = (125 : Int)))) then ((Go.Lf.idx s z1.1)).bind fun r5 =>
         bif (!(decide (((((UInt8.toNat r5) : Nat) : Int) : Int) = (124 : Int)))) then bif (decide ((z1.1 : Int) = (0 : Int))) then ((Go.Lf.idx s z1.1)).bind fun r6 =>
         bif (!(decide (((((UInt8.toNat r6) : Nat) : Int) : Int) = (46 : Int)))) then ((Go.Lf.idx s z1.1)).bind fun r7 =>
         some (decide (((((UInt8.toNat r7) : Nat) : Int) : Int) = (35 : Int)))
         else some true
         else some false
         else some true
         else some true
         else some true
         else some true).bind fun r8 =>
       bif r8 then ((Go.Lf.cat z1.2 ((92 : UInt8) :: ([] : List (UInt8))))).bind fun r9 =>
       some r9
       else some z1.2).bind fun r10 =>
     ((Go.Lf.sub s z1.1 (Go.IntKind.wrap .i64 (z1.1 + (1 : Int))))).bind fun r11 =>
     ((Go.Lf.cat r10 r11)).bind fun r12 =>
     some (.inl ((Go.IntKind.wrap .i64 (z1.1 + (1 : Int))), r12))
     else some (.inr z1.2))) : ∀ (m k : Nat), k + m = s.length → loopC B ((k : Int), escN s k) = some (escN s s.length)
  | 0, k, hk => by
    have h0 : ¬ (k : Int) < ((s.length : Nat) : Int) := by omega
    rw [loopC_step, hB]
    simp only [h0, decide_false, cond_false, Option.bind_some]
    rw [show k = s.length by omega]
  | m + 1, k, hk => by
    have h0 : (k : Int) < ((s.length : Nat) : Int) := by omega
    have hlt : k < s.length := by omega
    have hg : idx s (k : Int) = some s[k] := by rw [idx_nat, List.getElem?_eq_getElem hlt]
    have hle := escN_len s k
    have ih := ref_loop s hs B hB m (k + 1) (by omega)
    have hw : IntKind.wrap .i64 ((k : Int) + 1) = ((k + 1 : Nat) : Int) := wrapS (by omega)
    have hsub : sub s (k : Int) ((k + 1 : Nat) : Int) = some [s[k]] := by
      rw [sub_nat (by omega) (by omega), Nat.add_sub_cancel_left, List.take_one]
      simp [List.head?_drop, List.getElem?_eq_getElem hlt]
    have hE := escN_succ s k
    rw [List.getElem?_eq_getElem hlt] at hE
    have hE : escN s (k + 1) = escN s k ++ (if escB k s[k] = true then [92, s[k]] else [s[k]]) := hE
    have hz : decide ((k : Int) = 0) = (k == 0) := by
      by_cases h : k = 0
      · subst h; rfl
      · have : ¬ (k : Int) = 0 := by omega
        simp [this, h]
    have c1 := nat8 s[k] 92; have c2 := nat8 s[k] 123; have c3 := nat8 s[k] 125; have c4 := nat8 s[k] 124; have c5 := nat8 s[k] 46; have c6 := nat8 s[k] 35
    have c1 : decide (((s[k].toNat : Nat) : Int) = 92) = (s[k] == 92) := c1
    have c2 : decide (((s[k].toNat : Nat) : Int) = 123) = (s[k] == 123) := c2
    have c3 : decide (((s[k].toNat : Nat) : Int) = 125) = (s[k] == 125) := c3
    have c4 : decide (((s[k].toNat : Nat) : Int) = 124) = (s[k] == 124) := c4
    have c5 : decide (((s[k].toNat : Nat) : Int) = 46) = (s[k] == 46) := c5
    have c6 : decide (((s[k].toNat : Nat) : Int) = 35) = (s[k] == 35) := c6
    have k1 : cat (escN s k) [92] = some (escN s k ++ [92]) := cat_of (by simp only [List.length_singleton]; omega)
    have k2 : cat (escN s k ++ [92]) [s[k]] = some (escN s k ++ [92] ++ [s[k]]) := cat_of (by simp only [List.length_append, List.length_singleton]; omega)
    have k3 : cat (escN s k) [s[k]] = some (escN s k ++ [s[k]]) := cat_of (by simp only [List.length_singleton]; omega)
    have he : escB k s[k] = ((s[k] == 92 || s[k] == 123 || s[k] == 125 || s[k] == 124) || (k == 0 && (s[k] == 46 || s[k] == 35))) := rfl
    rw [loopC_step, hB]
    simp only [h0, decide_true, cond_true, hg, Option.bind_some, hw, hsub, hz, c1, c2, c3, c4, c5, c6]
    rw [cond7]
    simp only [Option.bind_some]
    rw [← he]
    cases hb : escB k s[k] with
    | true =>
      rw [hb] at hE
      simp only [if_true] at hE
      simp only [cond_true, k1, Option.bind_some, k2]
      rw [hE] at ih
      simpa using ih
    | false =>
      rw [hb] at hE
      simp only [Bool.false_eq_true, if_false] at hE
      simp only [cond_false, Option.bind_some, k3]
      rw [hE] at ih
      exact ih
theorem ref_eq (s : List UInt8) (hs : s.length ≤ 70368744177664) : folioref04_Escape s = some (escN s s.length) := by
  unfold folioref04_Escape
  have e := ref_loop s hs _ (fun _ => rfl) s.length 0 (by omega)
  have e : loopC _ ((0 : Int), ([] : List UInt8)) = _ := e
  rw [e]
  rfl
theorem escapes_law (s : List UInt8) (hs : s.length ≤ 70368744177664) : foliolaw04_MarkEscapes s = some true := by
  have h1 : mark_Escape s = some (escN s s.length) := if_pos hs
  unfold foliolaw04_MarkEscapes
  rw [h1, ref_eq s hs, awake]
  simp
end Go.Fn
/- Chapter 4, plainly: the lexer's small steps, total. -/
namespace Go.Fn
open Go Go.Lf
abbrev Bs := List UInt8
abbrev Tok := Int × Bs × Bs × Int × Int × Unit
abbrev Brc := Bs × Int × Int × Unit
abbrev LxT := List Tok × List Brc × Int × Tok × (Int × Int × Unit) × Int × Int × Unit
abbrev ErrT := Option (Int × (Int × Int × Int × Int × Bs × List (Bs × Int × Unit) × Unit) × Unit)
/-- a fault of source 0 -/
structure Wr where
  code : Int
  line : Int
  col : Int
  word : Bs
def Wr.e (f : Wr) : ErrT := some (1, (f.code, 0, f.line, f.col, f.word, [], ()), ())
/-- what goes on while a source is read -/
structure Lx where
  out : List Tok
  opn : List Brc
  ins : Bool
  run : Option (Bs × Int × Int)
  bl : Option (Int × Int)
  fresh : Bool
  line : Nat
def runT : Option (Bs × Int × Int) → Tok
  | none => (0, [], [], 0, 0, ())
  | some r => (6, [], r.1, r.2.1, r.2.2, ())
def blT : Option (Int × Int) → Int × Int × Unit
  | none => (0, 0, ())
  | some r => (r.1, r.2, ())
def bI (b : Bool) : Int := if b then 1 else 0
def Lx.t (x : Lx) : LxT := (x.out, x.opn, bI x.ins, runT x.run, blT x.bl, bI x.fresh, (x.line : Int), ())
/-- within bounds: n parts told at most, texts of n bytes at most -/
structure Lx.Ok (x : Lx) (n : Nat) : Prop where
  out : x.out.length ≤ n
  opn : x.opn.length ≤ 16
  run : ∀ r, x.run = some r → r.1 ≠ [] ∧ r.1.length ≤ n
  bl : ∀ r, x.bl = some r → r.2 ≠ 0
def putS (x : Lx) (s : Bs) (l c : Int) : Lx := { x with run := some (match x.run with | none => (s, l, c) | some r => (r.1 ++ s, r.2)) }
def flushS (x : Lx) : Lx := { x with out := (match x.run with | none => x.out | some r => x.out ++ [runT (some r)]), run := none }
def settleS (x : Lx) : Lx := match x.bl with
  | none => { x with fresh := false }
  | some r => { putS x [32] r.1 r.2 with bl := none, fresh := false }
def waitS (x : Lx) (c : Int) : Lx := if x.fresh = false ∧ x.bl = none then { x with bl := some ((x.line : Int), c) } else x
def tokS (x : Lx) (k : Int) (n : Bs) (c : Int) : Lx := { flushS (settleS x) with out := (flushS (settleS x)).out ++ [(k, n, [], (x.line : Int), c, ())] }
def endS (x : Lx) : Except Wr Lx :=
  if x.ins = false then .ok x else match x.opn.getLast? with
    | some b => .error ⟨45, b.2.1, b.2.2.1, b.1⟩
    | none => .ok { flushS x with ins := false, bl := none }
/-- what a function of the lexer says: a fault, or a state -/
def Res (r : Option (ErrT × LxT)) : Except Wr Lx → Prop
  | .ok y => r = some (none, y.t)
  | .error w => ∃ t, r = some (w.e, t)

theorem Lx.Ok.mono {x : Lx} {n m : Nat} (h : x.Ok n) (hm : n ≤ m) : x.Ok m := ⟨Nat.le_trans h.out hm, h.opn, fun r hr => ⟨(h.run r hr).1, Nat.le_trans (h.run r hr).2 hm⟩, h.bl⟩
theorem bI_zero (b : Bool) : decide (bI b = 0) = !b := by cases b <;> rfl
theorem put_eq {x : Lx} {n : Nat} (h : x.Ok n) (s : Bs) (l c : Int) (hn : n + s.length ≤ 1000000000) : mark_lexer__put x.t s l c = some (putS x s l c).t := by
  obtain ⟨out, opn, ins, run, bl, fresh, line⟩ := x
  unfold mark_lexer__put putS
  cases run with
  | none =>
    have hc : cat ([] : List UInt8) s = some ([] ++ s) := cat_of (by simp; omega)
    simp [Lx.t, runT, hc]
  | some r =>
    obtain ⟨h1, h2⟩ := h.run r rfl
    have hc : cat r.1 s = some (r.1 ++ s) := cat_of (by omega)
    simp [Lx.t, runT, hc, h1]
theorem put_ok {x : Lx} {n m : Nat} (h : x.Ok n) (s : Bs) (l c : Int) (hs : s ≠ []) (hn : n + s.length ≤ m) : (putS x s l c).Ok m := by
  refine ⟨Nat.le_trans h.out (by omega), h.opn, fun r hr => ?_, h.bl⟩
  unfold putS at hr
  cases hx : x.run with
  | none => rw [hx] at hr; cases hr; exact ⟨hs, by show s.length ≤ m; omega⟩
  | some q =>
    rw [hx] at hr; cases hr
    have := h.run q hx
    exact ⟨by simp [this.1], by simp; omega⟩
theorem flush_eq {x : Lx} {n : Nat} (h : x.Ok n) (hn : n ≤ 1000000000) : mark_lexer__flush x.t = some (flushS x).t := by
  obtain ⟨out, opn, ins, run, bl, fresh, line⟩ := x
  have ho : out.length ≤ n := h.out
  unfold mark_lexer__flush flushS
  cases run with
  | none => simp [Lx.t, runT]
  | some r =>
    obtain ⟨h1, h2⟩ := h.run r rfl
    have ha : app 56 out [((6 : Int), ([] : Bs), r.1, r.2.1, r.2.2, ())] = some (out ++ [(6, [], r.1, r.2.1, r.2.2, ())]) := app_of (by simp; omega)
    simp [Lx.t, runT, h1, ha]
theorem flush_ok {x : Lx} {n m : Nat} (h : x.Ok n) (hn : n + 1 ≤ m) : (flushS x).Ok m := by
  refine ⟨?_, h.opn, fun r hr => (by cases hr), h.bl⟩
  have := h.out
  unfold flushS
  cases x.run with
  | none => show x.out.length ≤ m; omega
  | some r => simp; omega
theorem bl_ne {x : Lx} {n : Nat} (h : x.Ok n) : (((blT x.bl).1 :: (blT x.bl).2.1 :: ([] : List Int)) = (0 : Int) :: (0 : Int) :: []) ↔ x.bl = none := by
  constructor
  · intro e
    cases hb : x.bl with
    | none => rfl
    | some r =>
      rw [hb] at e
      simp only [blT, List.cons.injEq, and_true] at e
      exact absurd e.2 (h.bl r hb)
  · intro e; rw [e]; rfl
theorem settle_eq {x : Lx} {n : Nat} (h : x.Ok n) (hn : n ≤ 999999999) : mark_lexer__settle x.t = some (settleS x).t := by
  have hb := bl_ne h
  unfold mark_lexer__settle settleS
  cases hx : x.bl with
  | none =>
    have e : (((blT x.bl).1 :: (blT x.bl).2.1 :: ([] : List Int)) = (0 : Int) :: (0 : Int) :: []) := hb.2 hx
    simp only [Lx.t, e]
    simp [hx, bI]
  | some r =>
    have e : ¬ (((blT x.bl).1 :: (blT x.bl).2.1 :: ([] : List Int)) = (0 : Int) :: (0 : Int) :: []) := fun q => by rw [hb.1 q] at hx; cases hx
    have hp := put_eq h [32] (blT x.bl).1 (blT x.bl).2.1 (by simp; omega)
    simp only [Lx.t] at hp ⊢
    simp only [e, decide_false, Bool.not_false, cond_true, hp, Option.bind_some]
    simp [hx, bI, blT, putS]
theorem settle_ok {x : Lx} {n m : Nat} (h : x.Ok n) (hn : n + 1 ≤ m) : (settleS x).Ok m := by
  unfold settleS
  split
  · exact ⟨(h.mono (by omega)).out, h.opn, (h.mono (by omega)).run, h.bl⟩
  · rename_i r hr
    have := put_ok (m := m) h [32] r.1 r.2 (by simp) (by simp; omega)
    exact ⟨this.out, this.opn, this.run, fun q hq => by cases hq⟩
theorem wait_eq {x : Lx} {n : Nat} (h : x.Ok n) (c : Int) : mark_lexer__wait x.t c = some (waitS x c).t := by
  have hb := bl_ne h
  unfold mark_lexer__wait waitS
  cases hf : x.fresh with
  | true => simp [Lx.t, hf, bI]
  | false =>
    by_cases hx : x.bl = none
    · have e : (((blT x.bl).1 :: (blT x.bl).2.1 :: ([] : List Int)) = (0 : Int) :: (0 : Int) :: []) := hb.2 hx
      simp only [Lx.t, e]
      simp [hx, hf, bI, blT]
    · have e : ¬ (((blT x.bl).1 :: (blT x.bl).2.1 :: ([] : List Int)) = (0 : Int) :: (0 : Int) :: []) := fun q => hx (hb.1 q)
      simp only [Lx.t, e]
      simp [hx, hf, bI]
theorem wait_ok {x : Lx} {n : Nat} (h : x.Ok n) (c : Int) (hc : c ≠ 0) : (waitS x c).Ok n := by
  unfold waitS
  split
  · exact ⟨h.out, h.opn, h.run, fun r hr => by cases hr; exact hc⟩
  · exact h
theorem flush_line (x : Lx) : (flushS x).line = x.line := rfl
theorem settle_line (x : Lx) : (settleS x).line = x.line := by unfold settleS; split <;> rfl
theorem settle_opn (x : Lx) : (settleS x).opn = x.opn := by unfold settleS; split <;> rfl
theorem settle_ins (x : Lx) : (settleS x).ins = x.ins := by unfold settleS; split <;> rfl
theorem token_eq {x : Lx} {n : Nat} (h : x.Ok n) (k : Int) (s : Bs) (c : Int) (hn : n ≤ 999999990) : mark_lexer__token x.t k s c = some (tokS x k s c).t := by
  have h1 := settle_ok (m := n + 1) h (Nat.le_refl _)
  have h2 := flush_ok (m := n + 2) h1 (Nat.le_refl _)
  unfold mark_lexer__token
  rw [settle_eq h (by omega)]
  simp only [Option.bind_some]
  rw [flush_eq h1 (by omega)]
  simp only [Option.bind_some]
  have ho := h2.out
  have ha : app 56 (flushS (settleS x)).out [(k, s, ([] : Bs), ((x.line : Nat) : Int), c, ())] = some ((flushS (settleS x)).out ++ [(k, s, [], ((x.line : Nat) : Int), c, ())]) := app_of (by simp; omega)
  have e1 : ((flushS (settleS x)).t).2.2.2.2.2.2.1 = ((x.line : Nat) : Int) := by show (((flushS (settleS x)).line : Nat) : Int) = _; rw [flush_line, settle_line]
  have e2 : ((flushS (settleS x)).t).1 = (flushS (settleS x)).out := rfl
  rw [e1, e2, ha]
  rfl
theorem tok_ok {x : Lx} {n m : Nat} (h : x.Ok n) (k : Int) (s : Bs) (c : Int) (hn : n + 3 ≤ m) : (tokS x k s c).Ok m := by
  have h1 := settle_ok (m := n + 1) h (Nat.le_refl _)
  have h2 := flush_ok (m := n + 2) h1 (Nat.le_refl _)
  have ho := h2.out
  exact ⟨by simp only [tokS, List.length_append, List.length_singleton]; omega, h2.opn, fun r hr => (by cases hr), h2.bl⟩
theorem tok_opn (x : Lx) (k : Int) (s : Bs) (c : Int) : (tokS x k s c).opn = x.opn := settle_opn x
theorem tok_line (x : Lx) (k : Int) (s : Bs) (c : Int) : (tokS x k s c).line = x.line := settle_line x
theorem wrong_eq (code line col : Int) (word : Bs) (h : code ≠ 0) : mark_wrong code line col word = some (Wr.e ⟨code, line, col, word⟩) := by
  unfold mark_wrong fault_New
  simp [h, Wr.e]
theorem end_eq {x : Lx} {n : Nat} (h : x.Ok n) (hn : n ≤ 1000000000) : Res (mark_lexer__end x.t) (endS x) := by
  have e0 : x.t.2.2.1 = bI x.ins := rfl
  have e1 : x.t.2.1 = x.opn := rfl
  unfold mark_lexer__end endS
  rw [e0, e1, bI_zero]
  cases hi : x.ins with
  | false => simp [Res]
  | true =>
    cases ho : x.opn.getLast? with
    | none =>
      rw [List.getLast?_eq_none_iff] at ho
      have hf := flush_eq h hn
      simp only [Bool.not_true, cond_false, ho, List.length_nil, hf, Option.bind_some]
      simp [Res, Lx.t, blT, bI]
    | some b =>
      have hl : x.opn ≠ [] := fun e => by rw [e] at ho; cases ho
      have hlen : 0 < x.opn.length := List.length_pos_iff.2 hl
      have hb := h.opn
      have hw : IntKind.wrap .i64 (((x.opn.length : Nat) : Int) - 1) = ((x.opn.length - 1 : Nat) : Int) := by rw [wrap64 (by omega) (by omega)]; omega
      have hck : chk x.opn.length ((x.opn.length - 1 : Nat) : Int) = some (x.opn.length - 1) := by
        unfold chk; rw [if_pos (by omega)]; simp
      have hnt : nth x.opn (x.opn.length - 1) = some b := by
        unfold nth
        rw [← List.getLast?_eq_getElem?, ho]
      have h0 : (0 : Int) < ((x.opn.length : Nat) : Int) := by omega
      simp only [Bool.not_true, cond_false, h0, decide_true, cond_true, hw, hck, Option.bind_some, hnt]
      rw [wrong_eq _ _ _ _ (by decide)]
      exact ⟨_, rfl⟩
theorem end_ok {x y : Lx} {n m : Nat} (h : x.Ok n) (hn : n + 1 ≤ m) (hy : endS x = .ok y) : y.Ok m := by
  unfold endS at hy
  split at hy
  · cases hy; exact h.mono (by omega)
  · split at hy
    · cases hy
    · cases hy
      have := flush_ok (m := m) h hn
      exact ⟨this.out, this.opn, this.run, fun r hr => by cases hr⟩
end Go.Fn
